/- Texts joined: TmTy, TmSt, TmTab, TmMem, TmOp, TmSnd, TmVal, TmDid, TmDid2, TmDid3, TmDid4, TmDid5, TmDid6, TmDid7, TmDid8, TmDid9, TmStep, TmDid10, TmStep2. -/
import Derived.WalkKit
import Derived.Below
import Derived.KernelRfl
import Derived.Laws.Append
import Derived.Laws.StructEq
import Derived.Great.BuildSlice
import Derived.Laws.MakeOwn
import Derived.Laws.BytesString
import Derived.Laws.Slices
import Derived.Lib.ConvBytes
import Derived.Laws.BytesArg
/- Values of the shapes that the program has, as Lean's own types (Ty.den), and what it says that cells stand for them (rep). -/
set_option linter.unusedVariables false
set_option linter.unusedSimpArgs false
namespace Go.Tm

inductive Ty where
  | int (k : IntKind)
  | bool
  | str
  | unit
  | prod (a b : Ty)
  | slice (t : Ty)
  | arr (n : Nat) (t : Ty)
  deriving DecidableEq, Inhabited

@[reducible] def Ty.den : Ty → Type
  | .int _ => Int
  | .bool => Bool
  | .str => ByteArray
  | .unit => Unit
  | .prod a b => a.den × b.den
  | .slice t => List t.den
  | .arr _ t => List t.den

def Ty.sz : Ty → Nat
  | .int _ => 1
  | .bool => 1
  | .str => 1
  | .unit => 0
  | .prod a b => a.sz + b.sz
  | .slice _ => 1
  | .arr n t => n * t.sz

def Ty.agg : Ty → Bool
  | .unit => true
  | .prod _ _ => true
  | .arr _ _ => true
  | _ => false

/-- At most so many bytes. -/
def Ty.mx : Ty → Nat
  | .int k => match k with
    | .i8 => 1 | .u8 => 1 | .i16 => 2 | .u16 => 2 | .i32 => 4 | .u32 => 4 | .i64 => 8 | .u64 => 8
  | .bool => 1
  | .str => 16
  | .unit => 0
  | .prod a b => (a.mx + 7) / 8 * 8 + b.mx
  | .slice _ => 24
  | .arr n t => n * t.mx

theorem Ty.mx_pos : ∀ t : Ty, 0 < t.sz → 0 < t.mx
  | .int k, _ => by cases k <;> decide
  | .bool, _ => by decide
  | .str, _ => by decide
  | .unit, h => by simp [Ty.sz] at h
  | .prod a b, h => by
    simp only [Ty.sz] at h
    simp only [Ty.mx]
    rcases Nat.eq_zero_or_pos a.sz with h0 | h0
    · have := Ty.mx_pos b (by omega); omega
    · have := Ty.mx_pos a h0; omega
  | .slice _, _ => by simp [Ty.mx]
  | .arr n t, h => by
    simp only [Ty.sz] at h
    simp only [Ty.mx]
    rcases Nat.eq_zero_or_pos n with h0 | h0
    · simp [h0] at h
    · exact Nat.mul_pos h0 (Ty.mx_pos t (Nat.pos_of_ne_zero (fun e => by simp [e] at h)))

/-- Does a value of this type lead to other memory? -/
def Ty.far : Ty → Bool
  | .prod a b => a.far || b.far
  | .slice _ => true
  | .arr _ t => t.far
  | _ => false

def Ty.dflt : (t : Ty) → t.den
  | .int _ => (0 : Int)
  | .bool => false
  | .str => ⟨#[]⟩
  | .unit => ()
  | .prod a b => (a.dflt, b.dflt)
  | .slice _ => []
  | .arr n t => List.replicate n t.dflt

def Ty.zeroV : Ty → List Value
  | .int k => [.int k 0]
  | .bool => [.bool false]
  | .str => [.string ⟨#[]⟩]
  | .unit => []
  | .prod a b => a.zeroV ++ b.zeroV
  | .slice _ => [.slice none 0 0]
  | .arr n t => (List.replicate n t.zeroV).flatten

def repList {α : Type} (r : α → List Value → Prop) : List α → List Value → Prop
  | [], cs => cs = []
  | x :: xs, cs => ∃ c1 c2, cs = c1 ++ c2 ∧ r x c1 ∧ repList r xs c2

/-- Cells as they lie in memory from an address on. -/
def lies (w : World) (ad : Addr) (cs : List Value) : Prop := ∀ j v, cs[j]? = some v → w.cell? (ad.add j) = some v

def rep (w : World) (R : Nat → Prop) : (t : Ty) → t.den → List Value → Prop
  | .int k, x, cs => cs = [.int k x]
  | .bool, x, cs => cs = [.bool x]
  | .str, x, cs => cs = [.string x]
  | .unit, _, cs => cs = []
  | .prod a b, x, cs => ∃ c1 c2, cs = c1 ++ c2 ∧ rep w R a x.1 c1 ∧ rep w R b x.2 c2
  | .slice t, xs, cs => ∃ A c, cs = [.slice A xs.length c] ∧ xs.length ≤ c ∧ c ≤ maxLen ∧
      (xs = [] ∨ ∃ ad inner, A = some ad ∧ R ad.block ∧ ad.block < w.heap.size ∧ repList (rep w R t) xs inner ∧ lies w ad inner)
  | .arr n t, xs, cs => xs.length = n ∧ repList (rep w R t) xs cs

/-! ### Rows -/
section
variable {α : Type} {r r' : α → List Value → Prop} {xs ys : List α} {cs ds : List Value} {n : Nat}

theorem repList.length (hr : ∀ x c, r x c → c.length = n) : ∀ {xs : List α} {cs : List Value}, repList r xs cs → cs.length = xs.length * n
  | [], cs, h => by simp [repList] at h; simp [h]
  | x :: xs, cs, h => by
    obtain ⟨c1, c2, rfl, h1, h2⟩ := h
    simp [hr _ _ h1, repList.length hr h2, Nat.add_mul, Nat.add_comm]

theorem repList.imp (hr : ∀ x c, x ∈ xs → r x c → r' x c) (h : repList r xs cs) : repList r' xs cs := by
  induction xs generalizing cs with
  | nil => exact h
  | cons x xs ih =>
    obtain ⟨c1, c2, rfl, h1, h2⟩ := h
    exact ⟨c1, c2, rfl, hr _ _ (by simp) h1, ih (fun x c hx => hr x c (by simp [hx])) h2⟩

theorem repList.append (h : repList r xs cs) (k : repList r ys ds) : repList r (xs ++ ys) (cs ++ ds) := by
  induction xs generalizing cs with
  | nil => simp [repList] at h; simpa [h] using k
  | cons x xs ih =>
    obtain ⟨c1, c2, rfl, h1, h2⟩ := h
    exact ⟨c1, c2 ++ ds, by simp, h1, ih h2⟩

theorem repList.one {x : α} {c : List Value} (h : r x c) : repList r [x] c := ⟨c, [], by simp, h, rfl⟩

theorem repList.take (hr : ∀ x c, r x c → c.length = n) (h : repList r xs cs) (k : Nat) : repList r (xs.take k) (cs.take (k * n)) := by
  induction xs generalizing cs k with
  | nil => simp [repList] at h; simp [h, repList]
  | cons x xs ih =>
    obtain ⟨c1, c2, rfl, h1, h2⟩ := h
    cases k with
    | zero => simp [repList]
    | succ k =>
      refine ⟨c1, c2.take (k * n), ?_, h1, ih h2 k⟩
      have : (k + 1) * n = c1.length + k * n := by rw [hr _ _ h1, Nat.add_mul, Nat.one_mul, Nat.add_comm]
      rw [this, List.take_length_add_append]

theorem repList.drop (hr : ∀ x c, r x c → c.length = n) (h : repList r xs cs) (k : Nat) : repList r (xs.drop k) (cs.drop (k * n)) := by
  induction xs generalizing cs k with
  | nil => simp [repList] at h; simp [h, repList]
  | cons x xs ih =>
    cases k with
    | zero => simpa using h
    | succ k =>
      obtain ⟨c1, c2, rfl, h1, h2⟩ := h
      have : (k + 1) * n = c1.length + k * n := by rw [hr _ _ h1, Nat.add_mul, Nat.one_mul, Nat.add_comm]
      rw [this, List.drop_length_add_append]
      simpa using ih h2 k

theorem repList.get (hr : ∀ x c, r x c → c.length = n) (h : repList r xs cs) (i : Nat) (x : α) (hi : xs[i]? = some x) : r x ((cs.drop (i * n)).take n) := by
  have hd := h.drop hr i
  have hlt : i < xs.length := by
    rcases Nat.lt_or_ge i xs.length with h | h
    · exact h
    · simp [List.getElem?_eq_none h] at hi
  rw [List.drop_eq_getElem_cons hlt] at hd
  obtain ⟨c1, c2, he, h1, h2⟩ := hd
  have : xs[i] = x := by simpa [List.getElem?_eq_getElem hlt] using hi
  rw [this] at h1
  rw [he, show n = c1.length + 0 by simp [hr _ _ h1], List.take_length_add_append]
  simpa using h1

theorem repList.set (hr : ∀ x c, r x c → c.length = n) (h : repList r xs cs) (i : Nat) (hi : i < xs.length) {x : α} {c : List Value} (hx : r x c) :
    repList r (xs.set i x) (cs.take (i * n) ++ c ++ cs.drop ((i + 1) * n)) := by
  have h1 := h.take hr i
  have h2 := h.drop hr (i + 1)
  have := (h1.append (repList.one hx)).append h2
  rw [List.set_eq_take_append_cons_drop, if_pos hi]
  simpa using this

theorem repList.replicate {x : α} {c : List Value} (h : r x c) : ∀ n, repList r (List.replicate n x) (List.replicate n c).flatten
  | 0 => rfl
  | n + 1 => ⟨c, _, by simp [List.replicate_succ], h, repList.replicate h n⟩
end

/-! ### Values -/
theorem rep_len {w : World} {R : Nat → Prop} : ∀ (t : Ty) {x : t.den} {cs : List Value}, rep w R t x cs → cs.length = t.sz
  | .int _, _, _, h => by simp only [rep] at h; subst h; rfl
  | .bool, _, _, h => by simp only [rep] at h; subst h; rfl
  | .str, _, _, h => by simp only [rep] at h; subst h; rfl
  | .unit, _, _, h => by simp only [rep] at h; subst h; rfl
  | .prod a b, _, _, h => by
    obtain ⟨c1, c2, rfl, h1, h2⟩ := h
    simp [Ty.sz, rep_len a h1, rep_len b h2]
  | .slice _, _, _, h => by obtain ⟨A, c, rfl, _⟩ := h; rfl
  | .arr n t, xs, _, h => by
    obtain ⟨h1, h2⟩ := h
    rw [h2.length (fun x c hx => rep_len t hx), Ty.sz]
    exact congrArg (· * t.sz) h1

theorem lies_move {w w' : World} {ad : Addr} {cs : List Value} (hw : w'.heap[ad.block]? = w.heap[ad.block]?) (h : lies w ad cs) : lies w' ad cs := by
  intro j v hv
  have := h j v hv
  have hb : (ad.add j).block = ad.block := by unfold Addr.add; split <;> rfl
  rw [← this]
  unfold World.cell?
  rw [hb, hw]

theorem rep_mono {w w' : World} {R R' : Nat → Prop} (hz : w.heap.size ≤ w'.heap.size) (hR : ∀ b, b < w.heap.size → R b → R' b) (hw : ∀ b, b < w.heap.size → R b → w'.heap[b]? = w.heap[b]?) :
    ∀ (t : Ty) {x : t.den} {cs : List Value}, rep w R t x cs → rep w' R' t x cs
  | .int _, _, _, h => h
  | .bool, _, _, h => h
  | .str, _, _, h => h
  | .unit, _, _, h => h
  | .prod a b, _, _, h => by
    obtain ⟨c1, c2, rfl, h1, h2⟩ := h
    exact ⟨c1, c2, rfl, rep_mono hz hR hw a h1, rep_mono hz hR hw b h2⟩
  | .slice t, xs, _, h => by
    obtain ⟨A, c, rfl, h1, h2, h3⟩ := h
    refine ⟨A, c, rfl, h1, h2, h3.imp id ?_⟩
    rintro ⟨ad, inner, rfl, hb, hs, hi, hl⟩
    exact ⟨ad, inner, rfl, hR _ hs hb, Nat.lt_of_lt_of_le hs hz, hi.imp (fun x c _ hx => rep_mono hz hR hw t hx), lies_move (hw _ hs hb) hl⟩
  | .arr n t, xs, _, h => ⟨h.1, h.2.imp (fun x c _ hx => rep_mono hz hR hw t hx)⟩

theorem rep_zero (w : World) (R : Nat → Prop) : ∀ t : Ty, rep w R t t.dflt t.zeroV
  | .int _ => rfl
  | .bool => rfl
  | .str => rfl
  | .unit => rfl
  | .prod a b => ⟨_, _, rfl, rep_zero w R a, rep_zero w R b⟩
  | .slice _ => ⟨none, 0, rfl, Nat.le_refl _, Nat.zero_le _, .inl rfl⟩
  | .arr n t => ⟨List.length_replicate, repList.replicate (rep_zero w R t) n⟩

theorem rep_cells {w : World} {R : Nat → Prop} : ∀ (t : Ty) {x : t.den} {cs : List Value}, rep w R t x cs → ∀ v ∈ cs, v.oneCell' = true
  | .int _, _, _, h => by simp only [rep] at h; subst h; simp [Value.oneCell']
  | .bool, _, _, h => by simp only [rep] at h; subst h; simp [Value.oneCell']
  | .str, _, _, h => by simp only [rep] at h; subst h; simp [Value.oneCell']
  | .unit, _, _, h => by simp only [rep] at h; subst h; simp
  | .prod a b, _, _, h => by
    obtain ⟨c1, c2, rfl, h1, h2⟩ := h
    intro v hv
    rcases List.mem_append.1 hv with hv | hv
    · exact rep_cells a h1 v hv
    · exact rep_cells b h2 v hv
  | .slice _, _, _, h => by obtain ⟨A, c, rfl, _⟩ := h; simp [Value.oneCell']
  | .arr n t, xs, cs, h => by
    have h2 := h.2
    clear h
    have key : ∀ (ys : List t.den) (cs : List Value), repList (rep w R t) ys cs → ∀ v ∈ cs, v.oneCell' = true := by
      intro ys
      induction ys with
      | nil => intro cs h v hv; simp [repList] at h; simp [h] at hv
      | cons y ys ih =>
        rintro cs ⟨c1, c2, rfl, h1, h2⟩ v hv
        rcases List.mem_append.1 hv with hv | hv
        · exact rep_cells t h1 v hv
        · exact ih _ h2 v hv
    exact key xs cs h2

/-! ### Ways into a value -/
inductive Way where
  | fld (j : Nat)
  | idx (i : Nat)
  deriving DecidableEq, Inhabited

def get : (t : Ty) → t.den → List Way → Option ((u : Ty) × u.den)
  | t, x, [] => some ⟨t, x⟩
  | .prod a b, x, .fld 0 :: p => get a x.1 p
  | .prod a b, x, .fld (j + 1) :: p => get b x.2 (.fld j :: p)
  | .arr _ t, xs, .idx i :: p => match xs[i]? with
    | some y => get t y p
    | none => none
  | _, _, _ => none
termination_by structural t => t

def offs : Ty → List Way → Nat
  | _, [] => 0
  | .prod a _, .fld 0 :: p => offs a p
  | .prod a b, .fld (j + 1) :: p => a.sz + offs b (.fld j :: p)
  | .arr _ t, .idx i :: p => i * t.sz + offs t p
  | _, _ => 0
termination_by structural t => t

def upd : (t : Ty) → t.den → List Way → (u : Ty) → u.den → Option t.den
  | t, _, [], u, y => if h : u = t then some (h ▸ y) else none
  | .prod a b, x, .fld 0 :: p, u, y => (upd a x.1 p u y).map fun z => (z, x.2)
  | .prod a b, x, .fld (j + 1) :: p, u, y => (upd b x.2 (.fld j :: p) u y).map fun z => (x.1, z)
  | .arr _ t, xs, .idx i :: p, u, y => match xs[i]? with
    | some z => (upd t z p u y).map fun z' => xs.set i z'
    | none => none
  | _, _, _, _, _ => none
termination_by structural t => t

theorem take_drop_mid {cs c1 c2 : List Value} {o n : Nat} (h : cs = c1 ++ c2) (hn : o + n ≤ c1.length) : (cs.drop o).take n = (c1.drop o).take n := by
  subst h
  rw [List.drop_append_of_le_length (by omega), List.take_append_of_le_length (by simp; omega)]

theorem rep_get {w : World} {R : Nat → Prop} : ∀ (t : Ty) (x : t.den) (cs : List Value) (p : List Way) (u : Ty) (y : u.den), rep w R t x cs → get t x p = some ⟨u, y⟩ →
    rep w R u y ((cs.drop (offs t p)).take u.sz) ∧ offs t p + u.sz ≤ t.sz := by
  intro t
  induction t with
  | prod a b iha ihb =>
    intro x cs p u y h hg
    cases p with
    | nil =>
      simp only [get, Option.some.injEq, Sigma.mk.injEq] at hg
      obtain ⟨rfl, hg⟩ := hg
      cases hg
      have hl := rep_len _ h
      refine ⟨by simpa [offs, ← hl] using h, by simp [offs]⟩
    | cons s p =>
      obtain ⟨c1, c2, rfl, h1, h2⟩ := h
      have l1 := rep_len _ h1
      have l2 := rep_len _ h2
      cases s with
      | idx i => simp [get] at hg
      | fld j =>
        cases j with
        | zero =>
          simp only [get] at hg
          obtain ⟨k1, k2⟩ := iha _ _ _ _ _ h1 hg
          refine ⟨?_, by simp only [offs, Ty.sz]; omega⟩
          simp only [offs]
          rw [take_drop_mid rfl (by omega)]
          exact k1
        | succ j =>
          simp only [get] at hg
          obtain ⟨k1, k2⟩ := ihb _ _ _ _ _ h2 hg
          refine ⟨?_, by simp only [offs, Ty.sz]; omega⟩
          simp only [offs]
          rw [← l1, List.drop_length_add_append]
          exact k1
  | arr n t iht =>
    intro x cs p u y h hg
    cases p with
    | nil =>
      simp only [get, Option.some.injEq, Sigma.mk.injEq] at hg
      obtain ⟨rfl, hg⟩ := hg
      cases hg
      have hl := rep_len _ h
      refine ⟨by simpa [offs, ← hl] using h, by simp [offs]⟩
    | cons s p =>
      cases s with
      | fld j => simp [get] at hg
      | idx i =>
        simp only [get] at hg
        split at hg
        · rename_i z hz
          obtain ⟨h1, h2⟩ := h
          have hlt : i < n := by
            rcases Nat.lt_or_ge i n with hh | hh
            · exact hh
            · rw [List.getElem?_eq_none (by omega)] at hz; cases hz
          have hr : ∀ x c, rep w R t x c → c.length = t.sz := fun x c hx => rep_len t hx
          have hi := h2.get hr i z hz
          obtain ⟨k1, k2⟩ := iht _ _ _ _ _ hi hg
          have hlen := h2.length hr
          have hm : (i + 1) * t.sz ≤ n * t.sz := Nat.mul_le_mul_right _ hlt
          rw [Nat.add_mul, Nat.one_mul] at hm
          refine ⟨?_, by simp only [offs, Ty.sz]; omega⟩
          simp only [offs]
          rw [List.drop_take, List.take_take, List.drop_drop, Nat.min_eq_left (by omega)] at k1
          exact k1
        · cases hg
  | int k =>
    intro x cs p u y h hg
    cases p with
    | nil =>
      simp only [get, Option.some.injEq, Sigma.mk.injEq] at hg
      obtain ⟨rfl, hg⟩ := hg
      cases hg
      have hl := rep_len _ h
      exact ⟨by simpa [offs, ← hl] using h, by simp [offs]⟩
    | cons s p => cases s <;> simp [get] at hg
  | bool =>
    intro x cs p u y h hg
    cases p with
    | nil =>
      simp only [get, Option.some.injEq, Sigma.mk.injEq] at hg
      obtain ⟨rfl, hg⟩ := hg
      cases hg
      have hl := rep_len _ h
      exact ⟨by simpa [offs, ← hl] using h, by simp [offs]⟩
    | cons s p => cases s <;> simp [get] at hg
  | str =>
    intro x cs p u y h hg
    cases p with
    | nil =>
      simp only [get, Option.some.injEq, Sigma.mk.injEq] at hg
      obtain ⟨rfl, hg⟩ := hg
      cases hg
      have hl := rep_len _ h
      exact ⟨by simpa [offs, ← hl] using h, by simp [offs]⟩
    | cons s p => cases s <;> simp [get] at hg
  | unit =>
    intro x cs p u y h hg
    cases p with
    | nil =>
      simp only [get, Option.some.injEq, Sigma.mk.injEq] at hg
      obtain ⟨rfl, hg⟩ := hg
      cases hg
      have hl := rep_len _ h
      exact ⟨by simpa [offs, ← hl] using h, by simp [offs]⟩
    | cons s p => cases s <;> simp [get] at hg
  | slice t _ =>
    intro x cs p u y h hg
    cases p with
    | nil =>
      simp only [get, Option.some.injEq, Sigma.mk.injEq] at hg
      obtain ⟨rfl, hg⟩ := hg
      cases hg
      have hl := rep_len _ h
      exact ⟨by simpa [offs, ← hl] using h, by simp [offs]⟩
    | cons s p => cases s <;> simp [get] at hg

theorem upd_nil {t u : Ty} {x : t.den} {y : u.den} {z : t.den} (h : upd t x [] u y = some z) : ∃ e : u = t, z = e ▸ y := by
  have : (if h : u = t then some (h ▸ y) else none : Option t.den) = some z := by
    cases t <;> simpa only [upd] using h
  split at this
  · rename_i e
    exact ⟨e, by simpa using this.symm⟩
  · cases this

theorem rep_upd {w : World} {R : Nat → Prop} : ∀ (t : Ty) (x : t.den) (cs : List Value) (p : List Way) (u : Ty) (y : u.den) (x' : t.den) (c : List Value), rep w R t x cs →
    upd t x p u y = some x' → rep w R u y c → rep w R t x' (cs.take (offs t p) ++ c ++ cs.drop (offs t p + u.sz)) ∧ offs t p + u.sz ≤ t.sz := by
  intro t
  have base : ∀ (t : Ty) (x : t.den) (cs : List Value) (u : Ty) (y : u.den) (x' : t.den) (c : List Value), rep w R t x cs →
      upd t x [] u y = some x' → rep w R u y c → rep w R t x' (cs.take (offs t []) ++ c ++ cs.drop (offs t [] + u.sz)) ∧ offs t [] + u.sz ≤ t.sz := by
    intro t x cs u y x' c h hu hc
    obtain ⟨rfl, rfl⟩ := upd_nil hu
    have hl := rep_len _ h
    have h0 : offs u [] = 0 := by cases u <;> rfl
    rw [h0]
    refine ⟨by simpa [← hl] using hc, by simp⟩
  induction t with
  | prod a b iha ihb =>
    intro x cs p u y x' c h hu hc
    cases p with
    | nil => exact base _ _ _ _ _ _ _ h hu hc
    | cons s p =>
      obtain ⟨c1, c2, rfl, h1, h2⟩ := h
      have l1 := rep_len _ h1
      have l2 := rep_len _ h2
      cases s with
      | idx i => simp [upd] at hu
      | fld j =>
        cases j with
        | zero =>
          simp only [upd, Option.map_eq_some_iff] at hu
          obtain ⟨z, hz, rfl⟩ := hu
          obtain ⟨k1, k2⟩ := iha _ _ _ _ _ _ _ h1 hz hc
          refine ⟨⟨_, c2, ?_, k1, h2⟩, by simp only [offs, Ty.sz]; omega⟩
          simp only [offs]
          rw [List.take_append_of_le_length (by omega), List.drop_append_of_le_length (by omega), ← List.append_assoc]
        | succ j =>
          simp only [upd, Option.map_eq_some_iff] at hu
          obtain ⟨z, hz, rfl⟩ := hu
          obtain ⟨k1, k2⟩ := ihb _ _ _ _ _ _ _ h2 hz hc
          refine ⟨⟨c1, _, ?_, h1, k1⟩, by simp only [offs, Ty.sz]; omega⟩
          simp only [offs]
          rw [← l1, Nat.add_assoc, List.take_length_add_append, List.drop_length_add_append]
          simp [List.append_assoc]
  | arr n t iht =>
    intro x cs p u y x' c h hu hc
    cases p with
    | nil => exact base _ _ _ _ _ _ _ h hu hc
    | cons s p =>
      cases s with
      | fld j => simp [upd] at hu
      | idx i =>
        simp only [upd] at hu
        split at hu
        · rename_i z hz
          simp only [Option.map_eq_some_iff] at hu
          obtain ⟨z', hz', rfl⟩ := hu
          obtain ⟨h1, h2⟩ := h
          have hlt : i < List.length x := by
            rcases Nat.lt_or_ge i (List.length x) with hh | hh
            · exact hh
            · rw [List.getElem?_eq_none (by omega)] at hz; cases hz
          have hr : ∀ x c, rep w R t x c → c.length = t.sz := fun x c hx => rep_len t hx
          have hi := h2.get hr i z hz
          obtain ⟨k1, k2⟩ := iht _ _ _ _ _ _ _ hi hz' hc
          have hlen := h2.length hr
          have hm : (i + 1) * t.sz ≤ List.length x * t.sz := Nat.mul_le_mul_right _ hlt
          rw [Nat.add_mul, Nat.one_mul] at hm
          have hx : List.length x = n := h1
          refine ⟨⟨by simpa using h1, ?_⟩, by simp only [offs, Ty.sz]; rw [hx] at hm; omega⟩
          have := h2.set hr i hlt k1
          have e : cs.take (i * t.sz) ++ (((cs.drop (i * t.sz)).take t.sz).take (offs t p) ++ c ++ ((cs.drop (i * t.sz)).take t.sz).drop (offs t p + u.sz)) ++ cs.drop ((i + 1) * t.sz)
              = cs.take (offs (.arr n t) (.idx i :: p)) ++ c ++ cs.drop (offs (.arr n t) (.idx i :: p) + u.sz) := by
            simp only [offs]
            rw [List.take_take, Nat.min_eq_left (by omega), List.take_add, List.drop_take, List.drop_drop, Nat.add_mul, Nat.one_mul]
            have e2 : cs.drop (i * t.sz + offs t p + u.sz) = (cs.drop (i * t.sz + offs t p + u.sz)).take (t.sz - (offs t p + u.sz)) ++ cs.drop (i * t.sz + t.sz) := by
              have e3 := (List.take_append_drop (t.sz - (offs t p + u.sz)) (cs.drop (i * t.sz + offs t p + u.sz))).symm
              rw [List.drop_drop, show i * t.sz + offs t p + u.sz + (t.sz - (offs t p + u.sz)) = i * t.sz + t.sz by omega] at e3
              exact e3
            rw [e2, show i * t.sz + (offs t p + u.sz) = i * t.sz + offs t p + u.sz by omega]
            simp [List.append_assoc]
          rw [← e]
          exact this
        · cases hu
  | int k =>
    intro x cs p u y x' c h hu hc
    cases p with
    | nil => exact base _ _ _ _ _ _ _ h hu hc
    | cons s p => cases s <;> simp [upd] at hu
  | bool =>
    intro x cs p u y x' c h hu hc
    cases p with
    | nil => exact base _ _ _ _ _ _ _ h hu hc
    | cons s p => cases s <;> simp [upd] at hu
  | str =>
    intro x cs p u y x' c h hu hc
    cases p with
    | nil => exact base _ _ _ _ _ _ _ h hu hc
    | cons s p => cases s <;> simp [upd] at hu
  | unit =>
    intro x cs p u y x' c h hu hc
    cases p with
    | nil => exact base _ _ _ _ _ _ _ h hu hc
    | cons s p => cases s <;> simp [upd] at hu
  | slice t _ =>
    intro x cs p u y x' c h hu hc
    cases p with
    | nil => exact base _ _ _ _ _ _ _ h hu hc
    | cons s p => cases s <;> simp [upd] at hu

/-! ### A value that stands in a slot -/
def mkv (t : Ty) (cs : List Value) : Value := if t.agg then .agg cs.toArray else cs.headD undef

def vrep (w : World) (R : Nat → Prop) (t : Ty) (x : t.den) (v : Value) : Prop := ∃ cs, rep w R t x cs ∧ v = mkv t cs

theorem mkv_cells {w : World} {R : Nat → Prop} {t : Ty} {x : t.den} {cs : List Value} (h : rep w R t x cs) : (mkv t cs).cells = cs.toArray := by
  unfold mkv
  split
  · rfl
  · rename_i ha
    have hl := rep_len _ h
    have hc := rep_cells _ h
    have h1 : t.sz = 1 := by cases t <;> simp [Ty.agg] at ha <;> rfl
    rw [h1] at hl
    obtain ⟨c, rfl⟩ := List.length_eq_one_iff.1 hl
    have := hc c (by simp)
    cases c <;> simp [Value.oneCell'] at this <;> rfl

theorem vrep_mono {w w' : World} {R R' : Nat → Prop} (hz : w.heap.size ≤ w'.heap.size) (hR : ∀ b, b < w.heap.size → R b → R' b) (hw : ∀ b, b < w.heap.size → R b → w'.heap[b]? = w.heap[b]?) {t : Ty} {x : t.den} {v : Value}
    (h : vrep w R t x v) : vrep w' R' t x v := by
  obtain ⟨cs, h, rfl⟩ := h
  exact ⟨cs, rep_mono hz hR hw t h, rfl⟩

end Go.Tm

/- What the slots of a frame stand for (Slot), and when a frame and a world are as a state says (Good). A state knows no addresses. -/
set_option linter.unusedVariables false
set_option linter.unusedSimpArgs false
namespace Go.Tm

abbrev Dv := (t : Ty) × t.den

inductive Slot where
  | dead
  | val (t : Ty) (x : t.den)
  | nil
  | own (n : Nat) (t : Ty) (xs : List t.den)
  | obj (n : Nat) (t : Ty) (x : t.den)
  | asl (n s : Nat) (rg : Option (Nat × Nat))
  | apt (n s : Nat) (p : List Way)
  | rpt (t : Ty) (x : t.den)
  | tup (l : List Dv)
  | ifc (T : TypeId) (t : Ty) (x : t.den)
  | clo (f : FuncId) (l : List Dv)      -- a function with what it caught: cells that are only read

/-- Cells of a block of the call's own. -/
structure Mem (w : World) (ad : Addr) (n : Nat) (cs : List Value) : Prop where mk ::
  out : ad.spot = none ∧ ∃ row e fz, w.heap[ad.block]? = some (.cells row e fz) ∧ ad.off + n ≤ row.size ∧ (fz.1 = fz.2 ∨ row.size ≤ fz.1) ∧
    cs.length ≤ n ∧ ∀ j v, cs[j]? = some v → row[ad.off + j]? = some v

def OwnS (w : World) (R : Nat → Prop) (t : Ty) (xs : List t.den) (v : Value) : Prop :=
  ∃ A c cs, v = .slice A xs.length c ∧ xs.length ≤ c ∧ c ≤ maxLen ∧ repList (rep w R t) xs cs ∧ ((A = none ∧ c = 0) ∨ ∃ ad, A = some ad ∧ Mem w ad (c * t.sz) cs)

def OwnP (w : World) (R : Nat → Prop) (t : Ty) (x : t.den) (v : Value) : Prop :=
  ∃ ad cs, v = .pointer (some ad) ∧ rep w R t x cs ∧ Mem w ad t.sz cs

def tupRep (w : World) (R : Nat → Prop) : List Dv → List Value → Prop
  | [], vs => vs = []
  | d :: l, vs => ∃ v r, vs = v :: r ∧ vrep w R d.1 d.2 v ∧ tupRep w R l r

/-- What stands in a cell that is only read. -/
def rptRep (w : World) (R : Nat → Prop) (d : Dv) (v : Value) : Prop := ∃ ad cs, v = .pointer (some ad) ∧ R ad.block ∧ ad.block < w.heap.size ∧ rep w R d.1 d.2 cs ∧ lies w ad cs
def rptsRep (w : World) (R : Nat → Prop) : List Dv → List Value → Prop
  | [], vs => vs = []
  | d :: l, vs => ∃ v r, vs = v :: r ∧ rptRep w R d v ∧ rptsRep w R l r

def SlotRep (w : World) (R : Nat → Prop) (st : Nat → Slot) (V : Nat → Value) : Slot → Value → Prop
  | .dead, _ => True
  | .val t x, v => vrep w R t x v
  | .nil, v => v = .slice none 0 0
  | .own _ t xs, v => OwnS w R t xs v
  | .obj _ t x, v => OwnP w R t x v
  | .asl n s none, v => ∀ t xs, st s = .own n t xs → v = V s
  | .asl n s (some (lo, len)), v => ∀ t xs, st s = .own n t xs → lo + len ≤ xs.length ∧ ∃ A L c A', V s = .slice A L c ∧ v = .slice A' len (c - lo) ∧
      ((A = none ∧ A' = none) ∨ ∃ ad j, A = some ad ∧ A' = some (ad.add j) ∧ j ≤ c * t.sz ∧ (lo < c → j = lo * t.sz))
  | .apt n s p, v => (∀ t x, st s = .obj n t x → ∃ ad, V s = .pointer (some ad) ∧ v = .pointer (some (ad.add (offs t p)))) ∧
      (∀ t xs, st s = .own n t xs → ∃ ad L c, V s = .slice (some ad) L c ∧ v = .pointer (some (ad.add (offs (.arr 0 t) p))))
  | .rpt t x, v => ∃ ad cs, v = .pointer (some ad) ∧ R ad.block ∧ ad.block < w.heap.size ∧ rep w R t x cs ∧ lies w ad cs
  | .tup l, v => ∃ vs, v = .tuple vs.toArray ∧ tupRep w R l vs
  | .ifc T t x, v => ∃ u, v = .iface T u ∧ vrep w R t x u
  | .clo f l, v => ∃ vs, v = .func (.func f) #[] vs.toArray ∧ rptsRep w R l vs

def ownBlk : Slot → Value → Option Nat
  | .own _ _ _, .slice (some ad) _ _ => some ad.block
  | .obj _ _ _, .pointer (some ad) => some ad.block
  | _, _ => none

def isObj : Slot → Bool
  | .obj _ _ _ => true
  | _ => false

def aliasOf : Slot → Option (Nat × Nat)
  | .asl n s _ => some (n, s)
  | .apt n s _ => some (n, s)
  | _ => none

/-- The blocks that may be read and are never written: those that were given to be read, and new ones; none that a slot owns. -/
def RO (B : World) (R0 : Nat → Prop) (st : Nat → Slot) (V : Nat → Value) (b : Nat) : Prop :=
  (R0 b ∨ B.heap.size ≤ b) ∧ ∀ k, ownBlk (st k) (V k) ≠ some b

structure Kept (B : World) (L : Nat → Prop) (w : World) : Prop where
  os : w.os = B.os
  tape : w.tape = B.tape
  output : w.output = B.output
  size : B.heap.size ≤ w.heap.size
  block : ∀ b, b < B.heap.size → ¬ L b → w.heap[b]? = B.heap[b]?

/-- From here on the slots are no variables of the frame: they stand for what the caller lent. -/
def ghost : Nat := 1000000

structure Good (B : World) (R0 L : Nat → Prop) (st : Nat → Slot) (V : Nat → Value) (w : World) : Prop where
  kept : Kept B L w
  rep : ∀ k, SlotRep w (RO B R0 st V) st V (st k) (V k)
  sep : ∀ i j b, ownBlk (st i) (V i) = some b → ownBlk (st j) (V j) = some b → i = j
  mine : ∀ k b, ownBlk (st k) (V k) = some b → (L b ∧ ((isObj (st k) = true ∧ ghost ≤ k) ∨ (isObj (st k) = false ∧ R0 b))) ∨ B.heap.size ≤ b

theorem Mem.block_lt {w : World} {ad : Addr} {n : Nat} {cs : List Value} (h : Mem w ad n cs) : ad.block < w.heap.size := by
  obtain ⟨_, row, e, fz, h, _⟩ := h.out
  exact (Array.getElem?_eq_some_iff.1 h).1

theorem Mem.move {w w' : World} {ad : Addr} {n : Nat} {cs : List Value} (h : Mem w ad n cs) (hw : w'.heap[ad.block]? = w.heap[ad.block]?) : Mem w' ad n cs := by
  obtain ⟨h1, row, e, fz, h2, h3⟩ := h.out
  exact ⟨h1, row, e, fz, hw.trans h2, h3⟩

theorem Mem.lies {w : World} {ad : Addr} {n : Nat} {cs : List Value} (h : Mem w ad n cs) : lies w ad cs := by
  obtain ⟨h1, row, e, fz, h2, h3, h4, h5, h6⟩ := h.out
  intro j v hv
  have := h6 j v hv
  cases ad with
  | mk b o s =>
    simp only at h1 h2 this
    subst h1
    unfold Addr.add
    split
    · rename_i h0
      subst h0
      simpa [World.cell?, h2] using this
    · simpa [World.cell?, h2] using this

theorem tupRep_mono {w w' : World} {R R' : Nat → Prop} (hz : w.heap.size ≤ w'.heap.size) (hR : ∀ b, b < w.heap.size → R b → R' b) (hw : ∀ b, b < w.heap.size → R b → w'.heap[b]? = w.heap[b]?) :
    ∀ {l : List Dv} {vs : List Value}, tupRep w R l vs → tupRep w' R' l vs
  | [], _, h => h
  | d :: l, _, h => by
    obtain ⟨v, r, rfl, h1, h2⟩ := h
    exact ⟨v, r, rfl, vrep_mono hz hR hw h1, tupRep_mono hz hR hw h2⟩

theorem rptRep.mono {w w' : World} {R R' : Nat → Prop} (hz : w.heap.size ≤ w'.heap.size) (hR : ∀ b, b < w.heap.size → R b → R' b) (hw : ∀ b, b < w.heap.size → R b → w'.heap[b]? = w.heap[b]?) {d : Dv} {v : Value} (h : rptRep w R d v) : rptRep w' R' d v := by
  obtain ⟨ad, cs, rfl, h1, h2, h3, h4⟩ := h
  exact ⟨ad, cs, rfl, hR _ h2 h1, Nat.lt_of_lt_of_le h2 hz, rep_mono hz hR hw _ h3, lies_move (hw _ h2 h1) h4⟩
theorem rptsRep.mono {w w' : World} {R R' : Nat → Prop} (hz : w.heap.size ≤ w'.heap.size) (hR : ∀ b, b < w.heap.size → R b → R' b) (hw : ∀ b, b < w.heap.size → R b → w'.heap[b]? = w.heap[b]?) :
    ∀ {l : List Dv} {vs : List Value}, rptsRep w R l vs → rptsRep w' R' l vs
  | [], _, h => h
  | d :: l, _, h => by
    obtain ⟨v, r, rfl, h1, h2⟩ := h
    exact ⟨v, r, rfl, h1.mono hz hR hw, rptsRep.mono hz hR hw h2⟩

theorem ownBlk_lt {w : World} {R : Nat → Prop} {st : Nat → Slot} {V : Nat → Value} {s : Slot} {v : Value} (h : SlotRep w R st V s v) {b : Nat} (hb : ownBlk s v = some b) : b < w.heap.size := by
  cases s <;> simp only [ownBlk] at hb <;> try (cases hb; done)
  · obtain ⟨A, c, cs, rfl, _, _, _, h⟩ := h
    rcases h with ⟨rfl, _⟩ | ⟨ad, rfl, h⟩
    · cases hb
    · simp only [Option.some.injEq] at hb
      subst hb
      exact h.block_lt
  · obtain ⟨ad, cs, rfl, _, h⟩ := h
    simp only [Option.some.injEq] at hb
    subst hb
    exact h.block_lt

/-- Another world, in which only blocks that this slot doesn't own have turned, and that reads no less. -/
theorem SlotRep.move {w w' : World} {R R' : Nat → Prop} {st st' : Nat → Slot} {V V' : Nat → Value} {s : Slot} {v : Value} (h : SlotRep w R st V s v)
    (hz : w.heap.size ≤ w'.heap.size) (hR : ∀ b, b < w.heap.size → R b → R' b) (hw : ∀ b, b < w.heap.size → R b → w'.heap[b]? = w.heap[b]?)
    (ho : ∀ b, ownBlk s v = some b → w'.heap[b]? = w.heap[b]?)
    (ha : ∀ n k, aliasOf s = some (n, k) → (∀ t xs', st' k = .own n t xs' → V' k = V k ∧ ∃ xs, st k = .own n t xs ∧ xs.length = xs'.length) ∧ (∀ t x', st' k = .obj n t x' → V' k = V k ∧ ∃ x, st k = .obj n t x)) :
    SlotRep w' R' st' V' s v := by
  cases s with
  | dead => trivial
  | val t x => exact vrep_mono hz hR hw h
  | nil => exact h
  | own n t xs =>
    obtain ⟨A, c, cs, rfl, h1, h2, h3, h4⟩ := h
    refine ⟨A, c, cs, rfl, h1, h2, h3.imp (fun x c _ hx => rep_mono hz hR hw t hx), ?_⟩
    rcases h4 with h4 | ⟨ad, rfl, hm⟩
    · exact .inl h4
    · exact .inr ⟨ad, rfl, hm.move (ho _ rfl)⟩
  | obj n t x =>
    obtain ⟨ad, cs, rfl, h1, h2⟩ := h
    exact ⟨ad, cs, rfl, rep_mono hz hR hw t h1, h2.move (ho _ rfl)⟩
  | asl n s rg =>
    cases rg with
    | none =>
      intro t xs' hs
      obtain ⟨h1, xs, hs', hl⟩ := (ha n s rfl).1 t xs' hs
      rw [h1]
      exact h t xs hs'
    | some q =>
      obtain ⟨lo, len⟩ := q
      intro t xs' hs
      obtain ⟨h1, xs, hs', hl⟩ := (ha n s rfl).1 t xs' hs
      obtain ⟨k1, k2⟩ := h t xs hs'
      rw [h1]
      exact ⟨by omega, k2⟩
  | apt n s p =>
    refine ⟨fun t x' hs => ?_, fun t xs' hs => ?_⟩
    · obtain ⟨h1, x, hs'⟩ := (ha n s rfl).2 t x' hs
      rw [h1]
      exact h.1 t x hs'
    · obtain ⟨h1, xs, hs', _⟩ := (ha n s rfl).1 t xs' hs
      rw [h1]
      exact h.2 t xs hs'
  | rpt t x =>
    obtain ⟨ad, cs, rfl, h1, h2, h3, h4⟩ := h
    exact ⟨ad, cs, rfl, hR _ h2 h1, Nat.lt_of_lt_of_le h2 hz, rep_mono hz hR hw t h3, lies_move (hw _ h2 h1) h4⟩
  | tup l =>
    obtain ⟨vs, rfl, h1⟩ := h
    exact ⟨vs, rfl, tupRep_mono hz hR hw h1⟩
  | ifc T t x =>
    obtain ⟨u, rfl, h1⟩ := h
    exact ⟨u, rfl, vrep_mono hz hR hw h1⟩
  | clo f l =>
    obtain ⟨vs, rfl, h1⟩ := h
    exact ⟨vs, rfl, h1.mono hz hR hw⟩

/-- What a step may do: it turns some slots (K), blocks that they owned, and new blocks. -/
theorem Good.change {B : World} {R0 L : Nat → Prop} {st st' : Nat → Slot} {V V' : Nat → Value} {w w' : World} (hg : Good B R0 L st V w) (K : Nat → Prop)
    (hos : w'.os = w.os) (htape : w'.tape = w.tape) (hout : w'.output = w.output) (hz : w.heap.size ≤ w'.heap.size)
    (hw : ∀ b, b < w.heap.size → (∀ k, K k → ownBlk (st k) (V k) ≠ some b) → w'.heap[b]? = w.heap[b]?)
    (same : ∀ k, ¬ K k → st' k = st k ∧ V' k = V k)
    (hrep : (∀ b, b < w.heap.size → RO B R0 st V b → RO B R0 st' V' b) → ∀ k, K k → SlotRep w' (RO B R0 st' V') st' V' (st' k) (V' k))
    (hown : ∀ k b, K k → ownBlk (st' k) (V' k) = some b → w.heap.size ≤ b ∨ ∃ k', K k' ∧ ownBlk (st k') (V k') = some b ∧ isObj (st k') = isObj (st' k) ∧ (isObj (st k') = true → ghost ≤ k' → ghost ≤ k))
    (hsep : ∀ i j b, K i → K j → ownBlk (st' i) (V' i) = some b → ownBlk (st' j) (V' j) = some b → i = j)
    (hal : ∀ k n s, ¬ K k → K s → aliasOf (st k) = some (n, s) →
      (∀ t xs', st' s = .own n t xs' → V' s = V s ∧ ∃ xs, st s = .own n t xs ∧ xs.length = xs'.length) ∧ (∀ t x', st' s = .obj n t x' → V' s = V s ∧ ∃ x, st s = .obj n t x)) :
    Good B R0 L st' V' w' := by
  have hlt : ∀ k b, ownBlk (st k) (V k) = some b → b < w.heap.size := fun k b h => ownBlk_lt (hg.rep k) h
  have hR : ∀ b, b < w.heap.size → RO B R0 st V b → RO B R0 st' V' b := by
    intro b hb h
    refine ⟨h.1, fun k hk => ?_⟩
    by_cases hK : K k
    · rcases hown k b hK hk with h1 | ⟨k', _, h1, _⟩
      · omega
      · exact h.2 k' h1
    · obtain ⟨e1, e2⟩ := same k hK
      rw [e1, e2] at hk
      exact h.2 k hk
  have hother : ∀ k b, ¬ K k → ownBlk (st k) (V k) = some b → w'.heap[b]? = w.heap[b]? := by
    intro k b hK hb
    refine hw b (hlt k b hb) (fun k' hK' h => ?_)
    have := hg.sep _ _ _ hb h
    subst this
    exact hK hK'
  refine ⟨?_, fun k => ?_, fun i j b hi hj => ?_, fun k b hb => ?_⟩
  · have hk := hg.kept
    refine ⟨hos.trans hk.os, htape.trans hk.tape, hout.trans hk.output, Nat.le_trans hk.size hz, fun b hb hL => ?_⟩
    rw [hw b (Nat.lt_of_lt_of_le hb hk.size) (fun k _ h => ?_)]
    · exact hk.block b hb hL
    · rcases hg.mine k b h with h1 | h1
      · exact hL h1.1
      · omega
  · by_cases hK : K k
    · exact hrep hR k hK
    · obtain ⟨e1, e2⟩ := same k hK
      rw [e1, e2]
      refine (hg.rep k).move hz hR (fun b hb h => hw b hb (fun k' _ hk' => h.2 k' hk')) (fun b hb => hother k b hK hb) (fun n s ha => ?_)
      by_cases hKs : K s
      · exact hal k n s hK hKs ha
      · obtain ⟨e3, e4⟩ := same s hKs
        rw [e3, e4]
        exact ⟨fun t xs' h => ⟨rfl, xs', h, rfl⟩, fun t x' h => ⟨rfl, x', h⟩⟩
  · by_cases hi' : K i <;> by_cases hj' : K j
    · exact hsep i j b hi' hj' hi hj
    · obtain ⟨e1, e2⟩ := same j hj'
      rw [e1, e2] at hj
      rcases hown i b hi' hi with h1 | ⟨k', h1, h2, _⟩
      · have := hlt j b hj; omega
      · have := hg.sep _ _ _ h2 hj
        subst this
        exact absurd h1 hj'
    · obtain ⟨e1, e2⟩ := same i hi'
      rw [e1, e2] at hi
      rcases hown j b hj' hj with h1 | ⟨k', h1, h2, _⟩
      · have := hlt i b hi; omega
      · have := hg.sep _ _ _ h2 hi
        subst this
        exact absurd h1 hi'
    · obtain ⟨e1, e2⟩ := same i hi'
      obtain ⟨e3, e4⟩ := same j hj'
      rw [e1, e2] at hi
      rw [e3, e4] at hj
      exact hg.sep i j b hi hj
  · by_cases hK : K k
    · rcases hown k b hK hb with h1 | ⟨k', _, h2, h3, h4⟩
      · exact .inr (Nat.le_trans hg.kept.size h1)
      · rw [← h3]
        exact (hg.mine k' b h2).imp (fun h => ⟨h.1, h.2.imp (fun h => ⟨h.1, h4 h.1 h.2⟩) id⟩) id
    · obtain ⟨e1, e2⟩ := same k hK
      rw [e1, e2] at hb
      rw [e1]
      exact hg.mine k b hb

/-! ### One slot -/
def put {α : Type} (f : Nat → α) (d : Nat) (s : α) : Nat → α := fun k => if k = d then s else f k
@[simp] theorem put_same {α : Type} (f : Nat → α) (d : Nat) (s : α) : put f d s d = s := by simp [put]
theorem put_ne {α : Type} (f : Nat → α) {d k : Nat} (s : α) (h : k ≠ d) : put f d s k = f k := by simp [put, h]
theorem put_eta {α : Type} (f : Nat → α) (d : Nat) : put f d (f d) = f := by funext k; unfold put; split <;> simp_all
theorem put_put {α : Type} (f : Nat → α) (d : Nat) (s s' : α) : put (put f d s) d s' = put f d s' := by funext k; unfold put; split <;> rfl
theorem put_comm {α : Type} (f : Nat → α) {d d' : Nat} (s s' : α) (h : d ≠ d') : put (put f d s) d' s' = put (put f d' s') d s := by
  funext k; unfold put; split <;> split <;> simp_all

def owning : Slot → Bool
  | .own _ _ _ => true
  | .obj _ _ _ => true
  | _ => false

theorem ownBlk_none {s : Slot} (h : owning s = false) (v : Value) : ownBlk s v = none := by
  cases s <;> simp [owning] at h <;> rfl

/-- A slot is filled with what owns nothing; the world has drawn at most. -/
theorem Good.put {B : World} {R0 L : Nat → Prop} {st : Nat → Slot} {V : Nat → Value} {w w' : World} (hg : Good B R0 L st V w) (d : Nat) (s : Slot) (v : Value)
    (hs : owning s = false) (hh : w'.heap = w.heap) (hos : w'.os = w.os) (htape : w'.tape = w.tape) (hout : w'.output = w.output)
    (hrep : SlotRep w (RO B R0 st V) st V s v) (hself : ∀ n, aliasOf s ≠ some (n, d)) : Good B R0 L (put st d s) (put V d v) w' := by
  refine hg.change (fun k => k = d) hos htape hout (by rw [hh]; exact Nat.le_refl _) (fun b hb _ => by rw [hh]) (fun k hk => ⟨put_ne _ _ hk, put_ne _ _ hk⟩) ?_ ?_ ?_ ?_
  · rintro hR k rfl
    simp only [put_same]
    refine hrep.move (by rw [hh]; exact Nat.le_refl _) hR (fun b _ _ => by rw [hh]) (fun b hb => by rw [hh]) (fun n k' ha => ?_)
    have : k' ≠ k := fun e => hself n (e ▸ ha)
    rw [put_ne _ _ this, put_ne _ _ this]
    exact ⟨fun t xs' h => ⟨rfl, xs', h, rfl⟩, fun t x' h => ⟨rfl, x', h⟩⟩
  · rintro k b rfl h
    simp only [put_same, ownBlk_none hs] at h
    cases h
  · rintro i j b rfl rfl _ _
    rfl
  · rintro k n s' hk rfl ha
    simp only [put_same]
    refine ⟨fun t xs' h => ?_, fun t x' h => ?_⟩ <;> (subst h; simp [owning] at hs)

end Go.Tm

/- A table of types: which type of the program has which shape; and what the machine does with types that stand in it. -/
set_option linter.unusedVariables false
set_option linter.unusedSimpArgs false
namespace Go.Tm

abbrev Tab := List (TypeId × Ty × Nat)

def lk : Tab → TypeId → Option (Ty × Nat)
  | [], _ => none
  | (k, u, b) :: r, t => if k = t then some (u, b) else lk r t

def ty (tab : Tab) (t : TypeId) : Option Ty := (lk tab t).map (·.1)

def fieldsOK (tab : Tab) : List Field → Ty → Nat → Bool
  | [], .unit, _ => true
  | f :: fs, .prod a b, off => f.offset == off && f.name != "_" && decide (ty tab f.type = some a) && decide (0 < a.sz) && fieldsOK tab fs b (off + a.sz)
  | _, _, _ => false

def underOK (tab : Tab) (d : Option TypeDesc) (u : Ty) : Bool :=
  match d, u with
  | some (.int k), .int k' => decide (k = k')
  | some .bool, .bool => true
  | some .string, .str => true
  | some (.slice e), .slice u' => decide (ty tab e = some u') && decide (0 < u'.sz)
  | some (.array n e), .arr m u' => decide (n = m) && decide (ty tab e = some u') && decide (0 < u'.sz)
  | some (.struct fs), u => u.agg && fieldsOK tab fs.toList u 0
  | _, _ => false

structure TabOK (P : Program) (tab : Tab) : Prop where
  under : (tab.all fun e => underOK tab (P.underlying e.1) e.2.1 && !P.eqGuardType P.depth e.1 && !P.stoodInHeld e.1 && decide (e.2.2 ≤ e.2.1.mx)) = true
  info : (tab.map fun e => (P.info? e.1).map fun i => (i.size, i.bytes, i.zero)) = tab.map fun e => some (e.2.1.sz, e.2.2, some (mkv e.2.1 e.2.1.zeroV))

theorem lk_mem : ∀ {tab : Tab} {t : TypeId} {u : Ty} {b : Nat}, lk tab t = some (u, b) → (t, u, b) ∈ tab
  | [], _, _, _, h => by cases h
  | (k, u', b') :: r, t, u, b, h => by
    simp only [lk] at h
    split at h
    · rename_i hk
      subst hk
      simp only [Option.some.injEq, Prod.mk.injEq] at h
      obtain ⟨rfl, rfl⟩ := h
      simp
    · exact List.mem_cons_of_mem _ (lk_mem h)

theorem ty_lk {tab : Tab} {t : TypeId} {u : Ty} (h : ty tab t = some u) : ∃ b, lk tab t = some (u, b) := by
  simp only [ty, Option.map_eq_some_iff] at h
  obtain ⟨⟨u', b⟩, h1, rfl⟩ := h
  exact ⟨b, h1⟩

section
variable {P : Program} {tab : Tab} (ok : TabOK P tab)
include ok

theorem tab_under {t : TypeId} {u : Ty} (h : ty tab t = some u) : underOK tab (P.underlying t) u = true ∧ P.eqGuardType P.depth t = false ∧ P.stoodInHeld t = false := by
  obtain ⟨b, h⟩ := ty_lk h
  have := List.all_eq_true.1 ok.under _ (lk_mem h)
  simp only [Bool.and_eq_true, Bool.not_eq_true'] at this
  exact ⟨this.1.1.1, this.1.1.2, this.1.2⟩

theorem tab_bytes {t : TypeId} {u : Ty} {b : Nat} (h : lk tab t = some (u, b)) : b ≤ u.mx := by
  have := List.all_eq_true.1 ok.under _ (lk_mem h)
  simp only [Bool.and_eq_true, decide_eq_true_eq] at this
  exact this.2

theorem tab_info {t : TypeId} {u : Ty} {b : Nat} (h : lk tab t = some (u, b)) : ∃ i, P.info? t = some i ∧ i.size = u.sz ∧ i.bytes = b ∧ i.zero = some (mkv u u.zeroV) := by
  have hm := lk_mem h
  have hf := List.map_inj_left.1 ok.info _ hm
  simp only [Option.map_eq_some_iff] at hf
  obtain ⟨i, hi, he⟩ := hf
  simp only [Prod.mk.injEq] at he
  exact ⟨i, hi, he.1, he.2.1, he.2.2⟩

theorem tab_info' {t : TypeId} {u : Ty} (h : ty tab t = some u) : ∃ i, P.info? t = some i ∧ i.size = u.sz ∧ i.zero = some (mkv u u.zeroV) := by
  obtain ⟨b, h⟩ := ty_lk h
  obtain ⟨i, h1, h2, _, h3⟩ := tab_info ok h
  exact ⟨i, h1, h2, h3⟩

theorem tm_sizeOf {t : TypeId} {u : Ty} (h : ty tab t = some u) (w : World) : (sizeOf t).run P w = .ok u.sz w := by
  obtain ⟨i, h1, h2, _⟩ := tab_info' ok h
  simp [sizeOf, typeInfo, h1, h2]

theorem tm_zero {t : TypeId} {u : Ty} (h : ty tab t = some u) (w : World) : (zeroValue t).run P w = .ok (mkv u u.zeroV) w := by
  obtain ⟨i, h1, _, h3⟩ := tab_info' ok h
  simp [zeroValue, typeInfo, h1, h3]

theorem tab_int {t : TypeId} {k : IntKind} (h : ty tab t = some (.int k)) : P.underlying t = some (.int k) := by
  have := (tab_under ok h).1
  unfold underOK at this
  split at this <;> simp_all [Ty.agg]

theorem tab_bool {t : TypeId} (h : ty tab t = some .bool) : P.underlying t = some .bool := by
  have := (tab_under ok h).1
  unfold underOK at this
  split at this <;> simp_all [Ty.agg]

theorem tab_str {t : TypeId} (h : ty tab t = some .str) : P.underlying t = some .string := by
  have := (tab_under ok h).1
  unfold underOK at this
  split at this <;> simp_all [Ty.agg]

theorem tab_slice {t : TypeId} {u : Ty} (h : ty tab t = some (.slice u)) : ∃ e, P.underlying t = some (.slice e) ∧ ty tab e = some u ∧ 0 < u.sz := by
  have := (tab_under ok h).1
  unfold underOK at this
  split at this <;> simp_all [Ty.agg]

theorem tab_arr {t : TypeId} {n : Nat} {u : Ty} (h : ty tab t = some (.arr n u)) : ∃ e, P.underlying t = some (.array n e) ∧ ty tab e = some u ∧ 0 < u.sz := by
  have := (tab_under ok h).1
  unfold underOK at this
  split at this
  · simp_all
  · simp_all
  · simp_all
  · simp_all
  · rename_i n' e m' u' h1 h2
    simp only [Bool.and_eq_true, decide_eq_true_eq] at this
    obtain ⟨⟨rfl, h3⟩, h4⟩ := this
    injection h2 with h2 h2'
    subst h2 h2'
    exact ⟨e, h1, h3, h4⟩
  · rename_i fs hh
    simp only [Bool.and_eq_true] at this
    have h2 := this.2
    cases hfs : fs.toList <;> simp [fieldsOK, hfs] at h2
  · simp_all

theorem tab_struct {t : TypeId} {u : Ty} (h : ty tab t = some u) (hu : u = .unit ∨ ∃ a b, u = .prod a b) : ∃ fs, P.underlying t = some (.struct fs) ∧ fieldsOK tab fs.toList u 0 = true := by
  have := (tab_under ok h).1
  unfold underOK at this
  split at this
  · rcases hu with hu | ⟨a, b, hu⟩ <;> cases hu
  · rcases hu with hu | ⟨a, b, hu⟩ <;> cases hu
  · rcases hu with hu | ⟨a, b, hu⟩ <;> cases hu
  · rcases hu with hu | ⟨a, b, hu⟩ <;> cases hu
  · rcases hu with hu | ⟨a, b, hu⟩ <;> cases hu
  · rename_i fs hh
    simp only [Bool.and_eq_true] at this
    exact ⟨fs, hh, this.2⟩
  · cases this

theorem tm_isAgg {t : TypeId} {u : Ty} (h : ty tab t = some u) (w : World) : (isAgg t).run P w = .ok u.agg w := by
  cases u with
  | int k => simp [isAgg, run_underlying (tab_int ok h), Ty.agg]
  | bool => simp [isAgg, run_underlying (tab_bool ok h), Ty.agg]
  | str => simp [isAgg, run_underlying (tab_str ok h), Ty.agg]
  | slice u => obtain ⟨e, h1, _⟩ := tab_slice ok h; simp [isAgg, run_underlying h1, Ty.agg]
  | arr n u => obtain ⟨e, h1, _⟩ := tab_arr ok h; simp [isAgg, run_underlying h1, Ty.agg]
  | unit => obtain ⟨fs, h1, _⟩ := tab_struct ok h (.inl rfl); simp [isAgg, run_underlying h1, Ty.agg]
  | prod a b => obtain ⟨fs, h1, _⟩ := tab_struct ok h (.inr ⟨a, b, rfl⟩); simp [isAgg, run_underlying h1, Ty.agg]
theorem tab_plain {t : TypeId} {u : Ty} (h : ty tab t = some u) : ∃ d, P.underlying t = some d ∧ ∀ ms, d ≠ .interface ms := by
  cases u with
  | int k => exact ⟨_, tab_int ok h, fun ms e => by cases e⟩
  | bool => exact ⟨_, tab_bool ok h, fun ms e => by cases e⟩
  | str => exact ⟨_, tab_str ok h, fun ms e => by cases e⟩
  | slice u => obtain ⟨e, h1, _⟩ := tab_slice ok h; exact ⟨_, h1, fun ms e => by cases e⟩
  | arr n u => obtain ⟨e, h1, _⟩ := tab_arr ok h; exact ⟨_, h1, fun ms e => by cases e⟩
  | unit => obtain ⟨fs, h1, _⟩ := tab_struct ok h (.inl rfl); exact ⟨_, h1, fun ms e => by cases e⟩
  | prod a b => obtain ⟨fs, h1, _⟩ := tab_struct ok h (.inr ⟨a, b, rfl⟩); exact ⟨_, h1, fun ms e => by cases e⟩
end

theorem agg_one {t : Ty} (h : t.agg = false) : t.sz = 1 := by cases t <;> simp [Ty.agg] at h <;> rfl

theorem add_zero (a : Addr) : a.add 0 = a := by simp [Addr.add]
theorem add_add (a : Addr) (m n : Nat) : (a.add m).add n = a.add (m + n) := by
  unfold Addr.add
  by_cases h1 : m = 0 <;> by_cases h2 : n = 0 <;> simp [h1, h2, Nat.add_assoc]
theorem add_block (a : Addr) (m : Nat) : (a.add m).block = a.block := by unfold Addr.add; split <;> rfl

theorem lies_mid {w : World} {ad : Addr} {cs : List Value} (h : lies w ad cs) (o n : Nat) : lies w (ad.add o) ((cs.drop o).take n) := by
  intro j v hv
  rw [add_add]
  refine h _ _ ?_
  rw [List.getElem?_take] at hv
  split at hv
  · rwa [List.getElem?_drop] at hv
  · cases hv

theorem tm_loadVar {P : Program} {tab : Tab} (ok : TabOK P tab) {t : TypeId} {u : Ty} (h : ty tab t = some u) {w : World} {ad : Addr} {cs : List Value} (hl : lies w ad cs) (hn : cs.length = u.sz) :
    (loadVar t ad).run P w = .ok (mkv u cs) w := by
  unfold loadVar
  rw [Sem.run_bind, tm_isAgg ok h]
  simp only [Result.andThen_ok]
  cases ha : u.agg with
  | true =>
    simp only [if_true, Sem.run_bind, tm_sizeOf ok h, Result.andThen_ok]
    rw [← hn, run_loadCells_list w ad cs hl]
    simp [mkv, ha]
  | false =>
    have := agg_one ha
    rw [this] at hn
    obtain ⟨c, rfl⟩ := List.length_eq_one_iff.1 hn
    have := hl 0 c rfl
    rw [add_zero] at this
    simp [run_load, this, mkv, ha]

end Go.Tm

/- What the machine's stores and appends do to cells of a block of the call's own. -/
set_option linter.unusedVariables false
set_option linter.unusedSimpArgs false
namespace Go.Tm

/-- Only this block may have turned, and new ones. -/
structure But (w : World) (A : Option Addr) (w' : World) : Prop where
  os : w'.os = w.os
  tape : w'.tape = w.tape
  output : w'.output = w.output
  size : w.heap.size ≤ w'.heap.size
  block : ∀ b, b < w.heap.size → (∀ ad, A = some ad → ad.block ≠ b) → w'.heap[b]? = w.heap[b]?

theorem But.refl (w : World) (A : Option Addr) : But w A w := ⟨rfl, rfl, rfl, Nat.le_refl _, fun _ _ _ => rfl⟩
theorem But.trans {w w1 w2 : World} {A : Option Addr} (h : But w A w1) (k : But w1 A w2) : But w A w2 :=
  ⟨k.os.trans h.os, k.tape.trans h.tape, k.output.trans h.output, Nat.le_trans h.size k.size, fun b hb hA => (k.block b (Nat.lt_of_lt_of_le hb h.size) hA).trans (h.block b hb hA)⟩

def ovr (cs : List Value) (o : Nat) (vs : List Value) : List Value := cs.take o ++ vs ++ cs.drop (o + vs.length)

theorem Mem.cut {w : World} {ad : Addr} {n : Nat} {cs : List Value} (h : Mem w ad n cs) (k : Nat) : Mem w ad n (cs.take k) := by
  obtain ⟨h1, row, e, fz, h2, h3, h4, h5, h6⟩ := h.out
  refine ⟨h1, row, e, fz, h2, h3, h4, by simp; omega, fun j v hv => h6 j v ?_⟩
  rw [List.getElem?_take] at hv
  split at hv
  · exact hv
  · cases hv

theorem Mem.part {w : World} {ad : Addr} {n : Nat} {cs : List Value} (h : Mem w ad n cs) (k : Nat) (hk : k ≤ n) : Mem w (ad.add k) (n - k) (cs.drop k) := by
  obtain ⟨h1, row, e, fz, h2, h3, h4, h5, h6⟩ := h.out
  cases ad with
  | mk bl o s =>
    simp only at h1 h2 h3 h6
    subst h1
    have e1 : (⟨bl, o, none⟩ : Addr).add k = ⟨bl, o + k, none⟩ := by unfold Addr.add; split <;> simp_all
    rw [e1]
    refine ⟨rfl, row, e, fz, h2, by simp only; omega, h4, by simp; omega, fun j v hv => ?_⟩
    rw [List.getElem?_drop] at hv
    have := h6 _ _ hv
    rw [← this]
    show row[o + k + j]? = _
    rw [Nat.add_assoc]

theorem Mem.cell {w : World} {bl o : Nat} {n : Nat} {cs : List Value} (h : Mem w ⟨bl, o, none⟩ n cs) (j : Nat) (hj : j < n) : (w.cell? ⟨bl, o + j, none⟩).isSome = true ∧ w.frozen? ⟨bl, o + j, none⟩ = false := by
  obtain ⟨h1, row, e, fz, h2, h3, h4, h5, h6⟩ := h.out
  simp only at h2 h3
  constructor
  · simp [World.cell?, h2]; omega
  · simp [World.frozen?, h2]; omega

theorem Mem.store {P : Program} {w : World} {ad : Addr} {n : Nat} {cs : List Value} (h : Mem w ad n cs) (o : Nat) (v : Value) (ho : o ≤ cs.length) (hn : o < n) (hv : v.oneCell' = true) :
    ∃ w', (store (ad.add o) v).run P w = .ok () w' ∧ Mem w' ad n (ovr cs o [v]) ∧ But w (some ad) w' := by
  obtain ⟨h1, row, e, fz, h2, h3, h4, h5, h6⟩ := h.out
  cases ad with
  | mk bl off s =>
    simp only at h1 h2 h3 h6
    subst h1
    have e1 : (⟨bl, off, none⟩ : Addr).add o = ⟨bl, off + o, none⟩ := by unfold Addr.add; split <;> simp_all
    obtain ⟨c1, c2⟩ := Mem.cell h o hn
    obtain ⟨old, hold⟩ := Option.isSome_iff_exists.1 c1
    refine ⟨w.setCell ⟨bl, off + o, none⟩ v, ?_, ?_, ?_⟩
    · rw [e1, run_store _ _ _ _ _ hv, hold]
      simp [c2]
    · refine ⟨rfl, row.setIfInBounds (off + o) v, e, fz, ?_, by simpa using h3, by simpa using h4, ?_, ?_⟩
      · simp [World.setCell, Array.getElem?_modify, h2]
      · simp [ovr]; omega
      · intro j u hu
        simp only [ovr] at hu
        show (row.setIfInBounds (off + o) v)[off + j]? = some u
        rw [Array.getElem?_setIfInBounds]
        rcases Nat.lt_trichotomy j o with hlt | rfl | hgt
        · rw [if_neg (by omega)]
          rw [List.append_assoc, List.getElem?_append_left (by simp; omega), List.getElem?_take, if_pos hlt] at hu
          exact h6 j u hu
        · rw [if_pos rfl]
          rw [List.append_assoc, List.getElem?_append_right (by simp; omega)] at hu
          simp [Nat.min_eq_left ho] at hu
          subst hu
          rw [if_pos (by omega)]
        · rw [if_neg (by omega)]
          rw [List.append_assoc, List.getElem?_append_right (by simp; omega), List.length_take, Nat.min_eq_left ho] at hu
          obtain ⟨k, rfl⟩ : ∃ k, j = o + (k + 1) := ⟨j - o - 1, by omega⟩
          rw [show o + (k + 1) - o = k + 1 by omega] at hu
          simp only [List.singleton_append, List.getElem?_cons_succ, List.getElem?_drop, List.length_singleton] at hu
          have := h6 _ _ hu
          rw [← this]
          congr 1
          omega
    · refine ⟨rfl, rfl, rfl, by simp [World.setCell], fun b hb hne => ?_⟩
      have := hne _ rfl
      simp only [World.setCell, Array.getElem?_modify]
      rw [if_neg (by simpa using this)]

theorem ovr_cons {cs : List Value} {o : Nat} {v : Value} {vs : List Value} (ho : o ≤ cs.length) : ovr (ovr cs o [v]) (o + 1) vs = ovr cs o (v :: vs) := by
  unfold ovr
  have e1 : (cs.take o ++ [v] ++ cs.drop (o + [v].length)).take (o + 1) = cs.take o ++ [v] := by
    rw [List.take_append_of_le_length (by simp; omega), List.take_of_length_le (by simp; omega)]
  have e2 : (cs.take o ++ [v] ++ cs.drop (o + [v].length)).drop (o + 1 + vs.length) = cs.drop (o + (v :: vs).length) := by
    have : (cs.take o ++ [v]).length = o + 1 := by simp; omega
    rw [← this, List.drop_length_add_append, List.drop_drop]
    congr 1
    simp; omega
  rw [e1, e2]
  simp

theorem Mem.storeCells {P : Program} {ad : Addr} {n : Nat} (base : Nat) : ∀ (vs : List Value) (w : World) (cs : List Value) (i : Nat), Mem w ad n cs → base + i ≤ cs.length → base + i + vs.length ≤ n → (∀ v ∈ vs, v.oneCell' = true) →
    ∃ w', (storeCells (ad.add base) vs i).run P w = .ok () w' ∧ Mem w' ad n (ovr cs (base + i) vs) ∧ But w (some ad) w'
  | [], w, cs, i, h, _, _, _ => ⟨w, by simp [Go.storeCells], by simpa [ovr] using h, But.refl _ _⟩
  | v :: vs, w, cs, i, h, h1, h2, h3 => by
    simp only [List.length_cons] at h2
    obtain ⟨w1, r1, m1, b1⟩ := h.store (P := P) (base + i) v h1 (by omega) (h3 v (by simp))
    obtain ⟨w2, r2, m2, b2⟩ := Mem.storeCells (P := P) base vs w1 _ (i + 1) m1 (by simp [ovr]; omega) (by omega) (fun u hu => h3 u (by simp [hu]))
    refine ⟨w2, ?_, ?_, b1.trans b2⟩
    · simp only [Go.storeCells, Sem.run_bind, add_add]
      rw [r1]
      exact r2
    · rw [← Nat.add_assoc, ovr_cons h1] at m2
      exact m2

theorem tm_storeVar {P : Program} {tab : Tab} (ok : TabOK P tab) {t : TypeId} {u : Ty} (h : ty tab t = some u) {w : World} {ad : Addr} {n : Nat} {cs new : List Value} {v : Value} (hm : Mem w ad n cs) (o : Nat)
    (ho : o + u.sz ≤ cs.length) (hv : v.cells = new.toArray) (hl : new.length = u.sz) (h1 : ∀ c ∈ new, c.oneCell' = true) :
    ∃ w', (storeVar t (ad.add o) v).run P w = .ok () w' ∧ Mem w' ad n (ovr cs o new) ∧ But w (some ad) w' := by
  have hcn : cs.length ≤ n := by obtain ⟨_, _, _, _, _, _, _, h5, _⟩ := hm.out; exact h5
  obtain ⟨w', r, m, b⟩ := hm.storeCells (P := P) o new w cs 0 (by omega) (by omega) h1
  refine ⟨w', ?_, by simpa using m, b⟩
  unfold storeVar
  rw [Sem.run_bind, tm_sizeOf ok h]
  simp only [Result.andThen_ok, hv, List.size_toArray, hl, ne_eq, not_true_eq_false, if_false]
  simpa using r

/-! ### append -/
theorem mem_new (w : World) (row : Array Value) (e : TypeId) (n : Nat) (cs : List Value) (hn : n ≤ row.size) (hc : cs.length ≤ n) (h : ∀ (j : Nat) (v : Value), cs[j]? = some v → row[j]? = some v) :
    Mem (w.alloc (.cells row e)) ⟨w.heap.size, 0, none⟩ n cs := by
  refine ⟨rfl, row, e, (0, 0), heap_alloc_new w _, by simpa using hn, .inl rfl, hc, fun j v hv => ?_⟩
  simpa using h j v hv

theorem but_alloc (w : World) (o : Obj) (A : Option Addr) : But w A (w.alloc o) := ⟨rfl, rfl, rfl, by simp, by
  intro b hb _
  exact Go.RowKit.Below.heap_alloc w o b hb⟩
theorem but_drew (w : World) (A : Option Addr) : But w A w.drew := ⟨rfl, rfl, rfl, Nat.le_refl _, fun _ _ _ => rfl⟩

/-- append of m elements with cells 'new', to a slice whose own cells are 'cs'. -/
theorem tm_append {P : Program} {tab : Tab} (ok : TabOK P tab) {t t2 e ty2 : TypeId} {u : Ty} {bytes : Nat} {d2 : TypeDesc} (ht : P.underlying t = some (.slice e)) (he : lk tab e = some (u, bytes)) (hz : 0 < u.sz)
    (ht2 : P.underlying t2 = some d2) (hd2 : d2 = .string ∨ ∃ e2, d2 = .slice e2) {w : World} {A : Option Addr} {n c : Nat} {cs : List Value} (hc : cs.length = n * u.sz) (hnc : n ≤ c) (hcm : c ≤ maxLen)
    (hA : (A = none ∧ c = 0) ∨ ∃ ad, A = some ad ∧ Mem w ad (c * u.sz) cs) {x : Value} {m : Nat} {new : List Value} (hl : (Builtin.lenOf x).run P w = .ok m w)
    (hf : ∀ w1, w1.heap = w.heap → (Builtin.firstCells u.sz m x).run P w1 = .ok new.toArray w1) (hn : new.length = m * u.sz) (h1 : ∀ v ∈ new, v.oneCell' = true)
    (hb : (n + m) * bytes ≤ 140737488355328) (hmax : n + m ≤ maxLen) :
    ∃ A' c' w', (Builtin.append_ #[t, t2] ty2 #[.slice A n c, x]).run P w = .ok (.slice A' (n + m) c') w' ∧ n + m ≤ c' ∧ c' ≤ maxLen ∧
      ((A' = none ∧ c' = 0) ∨ ∃ ad, A' = some ad ∧ Mem w' ad (c' * u.sz) (cs ++ new)) ∧ But w A w' ∧ (A' = A ∨ ∃ ad, A' = some ad ∧ ad.block = w.heap.size) := by
  obtain ⟨i, hi, hsz, hby, hzero⟩ := tab_info ok he
  by_cases hroom : n + m ≤ c
  · rcases hA with ⟨rfl, rfl⟩ | ⟨ad, rfl, hmem⟩
    · obtain rfl : n = 0 := by omega
      obtain rfl : m = 0 := by omega
      refine ⟨none, 0, w, ?_, by omega, by omega, .inl ⟨rfl, rfl⟩, But.refl _ _, .inl rfl⟩
      have hnew : new = [] := List.eq_nil_of_length_eq_zero (by simpa using hn)
      have := hf w rfl
      rcases hd2 with rfl | ⟨e2, rfl⟩ <;> simp [Builtin.append_, run_underlying ht, run_underlying ht2, sizeOf, typeInfo, hi, hl, hsz, this]
    · have hle : n * u.sz + m * u.sz ≤ c * u.sz := by rw [← Nat.add_mul]; exact Nat.mul_le_mul_right _ hroom
      obtain ⟨w', r, hm', hbut⟩ := hmem.storeCells (P := P) (n * u.sz) new w cs 0 (by omega) (by omega) h1
      refine ⟨some ad, c, w', ?_, hroom, hcm, .inr ⟨ad, rfl, ?_⟩, hbut, .inl rfl⟩
      · have := hf w rfl
        rcases hd2 with rfl | ⟨e2, rfl⟩ <;> simp [Builtin.append_, run_underlying ht, run_underlying ht2, sizeOf, typeInfo, hi, hl, hsz, this, hroom, r]
      · have : ovr cs (n * u.sz + 0) new = cs ++ new := by
          unfold ovr
          rw [Nat.add_zero, ← hc, List.take_length, List.drop_eq_nil_of_le (by omega), List.append_nil]
        rwa [this] at hm'
  · have hlt : c < n + m := by omega
    have hfit := growslice_fits hlt hb
    have hfit' : ¬ (281474976710656 < Builtin.nextslicecap (n + m) c * bytes) := by omega
    have h63 : ¬ (9223372036854775807 < (n : Int) + (m : Int)) := by unfold maxLen at hmax; omega
    have hold : (Builtin.firstCells u.sz n (.slice A n c)).run P w.drew = .ok cs.toArray w.drew := by
      rcases hA with ⟨rfl, rfl⟩ | ⟨ad, rfl, hmem⟩
      · have : cs = [] := by
          have h0 : n = 0 := by omega
          rw [h0, Nat.zero_mul] at hc
          exact List.eq_nil_of_length_eq_zero hc
        subst this
        exact run_firstCells_none _ _ _ _ _
      · exact run_firstCells_some _ _ _ _ _ _ _ hc (fun j v hv => by simpa using hmem.lies j v hv)
    have hnew := hf w.drew rfl
    have hg1 := grownCap_ge w (n + m) c e
    have hg2 := grownCap_le_maxLen w (n + m) c e hmax
    refine ⟨some ⟨w.heap.size, 0, none⟩, grownCap w (n + m) c e, w.drew.alloc (.cells (cs.toArray ++ new.toArray ++ Builtin.zeroCells (mkv u u.zeroV).cells (grownCap w (n + m) c e - (n + m))) e), ?_, hg1, hg2, .inr ⟨_, rfl, ?_⟩,
      (but_drew w A).trans (but_alloc _ _ _), .inr ⟨_, rfl, rfl⟩⟩
    · rcases hd2 with rfl | ⟨e2, rfl⟩ <;> simp [Builtin.append_, run_underlying ht, run_underlying ht2, sizeOf, typeInfo, zeroValue, hi, hl, hsz, hby, hzero, hroom, hfit', h63, Question.forced, hold, hnew, newRow, grownCap] <;> (congr 2; apply Array.ext'; simp)
    · have hzs : (mkv u u.zeroV).cells.size = u.sz := by
        rw [mkv_cells (rep_zero w (fun _ => True) u)]
        simpa using rep_len _ (rep_zero w (fun _ => True) u)
      have hsize : (cs.toArray ++ new.toArray ++ Builtin.zeroCells (mkv u u.zeroV).cells (grownCap w (n + m) c e - (n + m))).size = grownCap w (n + m) c e * u.sz := by
        simp only [Array.size_append, List.size_toArray, size_zeroCells, hzs, hc, hn]
        rw [← Nat.add_mul, ← Nat.add_mul]
        congr 1
        omega
      refine mem_new w.drew _ e _ _ (by rw [hsize]; exact Nat.le_refl _) ?_ ?_
      · simp only [List.length_append, hc, hn, ← Nat.add_mul]
        exact Nat.mul_le_mul_right _ hg1
      · intro j v hv
        have hj : j < (cs ++ new).length := by
          rcases Nat.lt_or_ge j (cs ++ new).length with h | h
          · exact h
          · rw [List.getElem?_eq_none h] at hv; cases hv
        rw [Array.getElem?_append_left (by simpa using hj)]
        simpa using hv

/-! ### append of so many noughts, copy, clear -/
theorem zeroCells_list (z : List Value) (hz : 0 < z.length) : ∀ n, (Builtin.zeroCells z.toArray n).toList = (List.replicate n z).flatten := by
  have h0 : (List.range z.length).map (fun i => z.toArray[i % z.toArray.size]!) = z := by
    apply List.ext_getElem (by simp)
    intro i h1 h2
    simp only [List.getElem_map, List.getElem_range, List.size_toArray, Nat.mod_eq_of_lt h2]
    rw [getElem!_pos _ _ (by simpa using h2)]
    simp
  have key : ∀ n, (List.range (n * z.length)).map (fun i => z.toArray[i % z.toArray.size]!) = (List.replicate n z).flatten := by
    intro n
    induction n with
    | zero => simp
    | succ n ih =>
      rw [show (n + 1) * z.length = z.length + n * z.length by rw [Nat.add_mul, Nat.one_mul, Nat.add_comm], List.range_add, List.map_append, h0, List.map_map, List.replicate_succ, List.flatten_cons, ← ih]
      congr 1
      apply List.map_congr_left
      intro i _
      simp only [Function.comp, List.size_toArray, Nat.add_mod_left]
  intro n
  rw [← key n]
  simp [Builtin.zeroCells, Array.toList_range]
theorem zeroV_len (u : Ty) : u.zeroV.length = u.sz := rep_len (w := default) (R := fun _ => True) u (rep_zero _ _ u)
theorem mkv_zero (u : Ty) : (mkv u u.zeroV).cells = u.zeroV.toArray := mkv_cells (rep_zero default (fun _ => True) u)
theorem zeros_run {P : Program} {tab : Tab} (ok : TabOK P tab) {e : TypeId} {u : Ty} (he : ty tab e = some u) (hz : 0 < u.sz) (m : Nat) (w : World) :
    ((do pure (Builtin.zeroCells (← zeroValue e).cells m)) : Sem (Array Value)).run P w = .ok (List.replicate m u.zeroV).flatten.toArray w := by
  rw [Sem.run_bind, tm_zero ok he]
  simp only [Result.andThen_ok, Sem.run_pure]
  congr 1
  apply Array.ext'
  rw [mkv_zero, zeroCells_list _ (by rw [zeroV_len]; exact hz)]
theorem repl_len (u : Ty) (m : Nat) : (List.replicate m u.zeroV).flatten.length = m * u.sz := by
  induction m with
  | zero => simp
  | succ m ih => rw [List.replicate_succ, List.flatten_cons, List.length_append, ih, zeroV_len, Nat.add_mul, Nat.one_mul, Nat.add_comm]

theorem tm_appendZ {P : Program} {tab : Tab} (ok : TabOK P tab) {t t2 e ty2 : TypeId} {u : Ty} {bytes : Nat} (ht : P.underlying t = some (.slice e)) (he : lk tab e = some (u, bytes)) (hz : 0 < u.sz)
    (ht2 : P.underlying t2 = some (.int .i64)) {w : World} {A : Option Addr} {n c : Nat} {cs : List Value} (hc : cs.length = n * u.sz) (hnc : n ≤ c) (hcm : c ≤ maxLen)
    (hA : (A = none ∧ c = 0) ∨ ∃ ad, A = some ad ∧ Mem w ad (c * u.sz) cs) {m : Nat} (hb : (n + m) * bytes ≤ 140737488355328) (hmax : n + m ≤ maxLen) :
    ∃ A' c' w', (Builtin.append_ #[t, t2] ty2 #[.slice A n c, .int .i64 (m : Int)]).run P w = .ok (.slice A' (n + m) c') w' ∧ n + m ≤ c' ∧ c' ≤ maxLen ∧
      ((A' = none ∧ c' = 0) ∨ ∃ ad, A' = some ad ∧ Mem w' ad (c' * u.sz) (cs ++ (List.replicate m u.zeroV).flatten)) ∧ But w A w' ∧ (A' = A ∨ ∃ ad, A' = some ad ∧ ad.block = w.heap.size) := by
  obtain ⟨i, hi, hsz, hby, hzero⟩ := tab_info ok he
  have hte : ty tab e = some u := by unfold ty; rw [he]; rfl
  have hzr := zeros_run (P := P) ok hte hz m
  have hmi : (m : Int) ≤ 9223372036854775807 := by unfold maxLen at hmax; omega
  have hw : IntKind.i64.wrap (m : Int) = (m : Int) := by rw [IntKind.wrap_i64]; omega
  have hn0 : ¬ ((m : Int) < 0) := by omega
  have hbm : m * bytes ≤ 140737488355328 := Nat.le_trans (Nat.mul_le_mul_right _ (Nat.le_add_left m n)) hb
  have hbig : ¬ ((m : Int) * (bytes : Int) > 2 ^ 48) := by
    have : (m : Int) * (bytes : Int) = ((m * bytes : Nat) : Int) := by simp
    rw [this]; omega
  have hbig2 : ¬ (281474976710656 < (m : Int) * (bytes : Int)) := by
    have : (m : Int) * (bytes : Int) = ((m * bytes : Nat) : Int) := by simp
    rw [this]; omega
  obtain ⟨new, hnew⟩ : ∃ new, new = (List.replicate m u.zeroV).flatten := ⟨_, rfl⟩
  rw [← hnew] at hzr ⊢
  have hn : new.length = m * u.sz := by rw [hnew]; exact repl_len u m
  have h1 : ∀ v ∈ new, v.oneCell' = true := by
    rw [hnew]
    exact rep_cells (w := w) (R := fun _ => True) (.arr m u) (x := List.replicate m u.dflt) ⟨List.length_replicate, repList.replicate (rep_zero w _ u) m⟩
  have happ : ∀ w1, ((if m * u.sz = 0 then pure #[] else do pure (Builtin.zeroCells (← zeroValue e).cells m)) : Sem (Array Value)).run P w1 = .ok new.toArray w1 := by
    intro w1
    split
    · rename_i h0
      rw [h0] at hn
      rw [List.eq_nil_of_length_eq_zero hn]
      rfl
    · exact hzr w1
  have hrunU : (underlying t2).run P w = .ok (.int .i64) w := run_underlying ht2 w
  have hai : ∀ w1 : World, (asInt (.int .i64 (m : Int))).run P w1 = .ok (m : Int) w1 := fun w1 => by simp [asInt, asIntOf]
  have hm0 : (m : Int).toNat = m := Int.toNat_natCast m
  by_cases hroom : n + m ≤ c
  · rcases hA with ⟨rfl, rfl⟩ | ⟨ad, rfl, hmem⟩
    · obtain rfl : n = 0 := by omega
      obtain rfl : m = 0 := by omega
      have hn2 : new = [] := List.eq_nil_of_length_eq_zero (by rw [hn, Nat.zero_mul])
      subst hn2
      refine ⟨none, 0, w, ?_, by omega, by omega, .inl ⟨rfl, rfl⟩, But.refl _ _, .inl rfl⟩
      have hai0 : ∀ w1 : World, (asInt (.int .i64 0)).run P w1 = .ok 0 w1 := fun w1 => by simp [asInt, asIntOf]
      simp [Builtin.append_, run_underlying ht, run_underlying ht2, sizeOf, typeInfo, hi, hsz, hai0, IntKind.wrap_i64]
    · have hle : n * u.sz + m * u.sz ≤ c * u.sz := by rw [← Nat.add_mul]; exact Nat.mul_le_mul_right _ hroom
      obtain ⟨w', r, hm', hbut⟩ := hmem.storeCells (P := P) (n * u.sz) new w cs 0 (by omega) (by omega) h1
      refine ⟨some ad, c, w', ?_, hroom, hcm, .inr ⟨ad, rfl, ?_⟩, hbut, .inl rfl⟩
      · have h3 := happ w
        by_cases hms : m * u.sz = 0
        · rw [if_pos hms] at h3
          simp only [Sem.run_pure, Result.ok.injEq, and_true] at h3
          have hn2 : new = [] := by rw [hms] at hn; exact List.eq_nil_of_length_eq_zero hn
          rw [hn2] at r
          simp [Builtin.append_, run_underlying ht, run_underlying ht2, sizeOf, typeInfo, hi, hsz, hby, hai, hw, hn0, hbig2, hroom, hms, r]
        · rw [if_neg hms] at h3
          simp only [Sem.run_bind] at h3
          cases hzv : (zeroValue e).run P w with
          | halt h w2 => rw [hzv] at h3; cases h3
          | ok z w2 =>
            rw [hzv] at h3
            simp only [Result.andThen_ok, Sem.run_pure, Result.ok.injEq] at h3
            obtain ⟨h3, rfl⟩ := h3
            simp [Builtin.append_, run_underlying ht, run_underlying ht2, sizeOf, typeInfo, hi, hsz, hby, hai, hw, hn0, hbig2, hroom, hms, hzv, h3, r]
      · have : ovr cs (n * u.sz + 0) new = cs ++ new := by
          unfold ovr
          rw [Nat.add_zero, ← hc, List.take_length, List.drop_eq_nil_of_le (by omega), List.append_nil]
        rwa [this] at hm'
  · have hlt : c < n + m := by omega
    have hfit := growslice_fits hlt hb
    have hfit' : ¬ (281474976710656 < Builtin.nextslicecap (n + m) c * bytes) := by omega
    have h63 : ¬ (9223372036854775807 < (n : Int) + (m : Int)) := by unfold maxLen at hmax; omega
    have hold : (Builtin.firstCells u.sz n (.slice A n c)).run P w.drew = .ok cs.toArray w.drew := by
      rcases hA with ⟨rfl, rfl⟩ | ⟨ad, rfl, hmem⟩
      · have : cs = [] := by
          have h0 : n = 0 := by omega
          rw [h0, Nat.zero_mul] at hc
          exact List.eq_nil_of_length_eq_zero hc
        subst this
        exact run_firstCells_none _ _ _ _ _
      · exact run_firstCells_some _ _ _ _ _ _ _ hc (fun j v hv => by simpa using hmem.lies j v hv)
    have hnew3 := happ w.drew
    have hg1 := grownCap_ge w (n + m) c e
    have hg2 := grownCap_le_maxLen w (n + m) c e hmax
    refine ⟨some ⟨w.heap.size, 0, none⟩, grownCap w (n + m) c e, w.drew.alloc (.cells (cs.toArray ++ new.toArray ++ Builtin.zeroCells (mkv u u.zeroV).cells (grownCap w (n + m) c e - (n + m))) e), ?_, hg1, hg2, .inr ⟨_, rfl, ?_⟩,
      (but_drew w A).trans (but_alloc _ _ _), .inr ⟨_, rfl, rfl⟩⟩
    · by_cases hms : m * u.sz = 0
      · rw [if_pos hms] at hnew3
        simp only [Sem.run_pure, Result.ok.injEq, and_true] at hnew3
        simp [Builtin.append_, run_underlying ht, run_underlying ht2, sizeOf, typeInfo, zeroValue, hi, hsz, hby, hzero, hai, hw, hn0, hbig2, hroom, hfit', h63, Question.forced, hold, hms, ← hnew3, newRow, grownCap]
        done
      · rw [if_neg hms] at hnew3
        have hzv : (zeroValue e).run P w.drew = .ok (mkv u u.zeroV) w.drew := tm_zero ok hte _
        rw [Sem.run_bind, hzv] at hnew3
        simp only [Result.andThen_ok, Sem.run_pure, Result.ok.injEq, and_true] at hnew3
        simp [Builtin.append_, run_underlying ht, run_underlying ht2, sizeOf, typeInfo, zeroValue, hi, hsz, hby, hzero, hai, hw, hn0, hbig2, hroom, hfit', h63, Question.forced, hold, hms, hnew3, newRow, grownCap]
        try (congr 2; apply Array.ext'; simp)
    · have hzs : (mkv u u.zeroV).cells.size = u.sz := by
        rw [mkv_zero]; simp [zeroV_len]
      have hsize : (cs.toArray ++ new.toArray ++ Builtin.zeroCells (mkv u u.zeroV).cells (grownCap w (n + m) c e - (n + m))).size = grownCap w (n + m) c e * u.sz := by
        simp only [Array.size_append, List.size_toArray, size_zeroCells, hzs, hc, hn]
        rw [← Nat.add_mul, ← Nat.add_mul]
        congr 1
        omega
      refine mem_new w.drew _ e _ _ (by rw [hsize]; exact Nat.le_refl _) ?_ ?_
      · simp only [List.length_append, hc, hn, ← Nat.add_mul]
        exact Nat.mul_le_mul_right _ hg1
      · intro j v hv
        have hj : j < (cs ++ new).length := by
          rcases Nat.lt_or_ge j (cs ++ new).length with h | h
          · exact h
          · rw [List.getElem?_eq_none h] at hv; cases hv
        rw [Array.getElem?_append_left (by simpa using hj)]
        simpa using hv

end Go.Tm

/- What an operation does to a state: plain functions on values; 'none' where nothing is promised. -/
set_option linter.unusedVariables false
set_option linter.unusedSimpArgs false
namespace Go.Tm

abbrev St := Nat → Slot

def castTo (u t : Ty) (x : u.den) : Option t.den := if h : u = t then some (h ▸ x) else none
@[simp] theorem castTo_self (t : Ty) (x : t.den) : castTo t t x = some x := by simp [castTo]

def cst : Value → Option Slot
  | .int k n => some (.val (.int k) n)
  | .bool b => some (.val .bool b)
  | .string s => some (.val .str s)
  | .slice none 0 0 => some .nil
  | .pointer none => some .dead
  | _ => none

def self (t : Nat) : Slot → Slot
  | .own n _ _ => .asl n t none
  | .obj n _ _ => .apt n t []
  | s => s

def ref (st : St) : Operand → Option Slot
  | .tmp t => if t < ghost then some (self t (st t)) else none
  | .const v => cst v
  | .func f => some (.clo f [])
  | _ => none

/-- An operand as it is seen: what stands in the slot, and what the slot holds to which it leads. -/
structure Lk where
  s : Slot
  c : Slot

def look (st : St) (x : Operand) : Option Lk :=
  (ref st x).map fun s => ⟨s, match aliasOf s with | some (_, k) => st k | none => .dead⟩

abbrev Ups := List (Nat × Slot)

def into (d : Option Tmp) (s : Slot) : Option Ups :=
  match d with
  | none => some []
  | some d => if (aliasOf s).map (·.2) = some d then none else some [(d, s)]

/-- The elements of a slice. -/
def slc (x : Lk) : Option ((t : Ty) × List t.den) :=
  match x.s, x.c with
  | .val (.slice t) xs, _ => some ⟨t, xs⟩
  | .asl n _ none, .own n' t xs => if n = n' then some ⟨t, xs⟩ else none
  | .asl n _ (some (lo, len)), .own n' t xs => if n = n' then some ⟨t, (xs.drop lo).take len⟩ else none
  | _, _ => none

/-- An operand as a value for good; a row of the call's own is never written again. -/
def frz (x : Lk) (want : Option Ty) : Option (Dv × Ups) :=
  match x.s, x.c with
  | .val t v, _ => some (⟨t, v⟩, [])
  | .nil, _ => match want with
    | some (.slice t) => some (⟨.slice t, ([] : List t.den)⟩, [])
    | _ => none
  | .asl n s none, .own n' t xs => if n = n' then some (⟨.slice t, xs⟩, [(s, .val (.slice t) xs)]) else none
  | .asl n s (some (lo, len)), .own n' t xs => if n = n' then some (⟨.slice t, (xs.drop lo).take len⟩, [(s, .val (.slice t) xs)]) else none
  | _, _ => none

/-- What an address leads to. -/
def aim (x : Lk) : Option Dv :=
  match x.s, x.c with
  | .rpt t v, _ => some ⟨t, v⟩
  | .apt n _ p, .obj n' t v => if n = n' then get t v p else none
  | .apt n _ (q :: p), .own n' t xs => if n = n' then get (.arr 0 t) xs (q :: p) else none
  | _, _ => none

def bits (op : BinOp) (k : IntKind) (x y : Int) : Int :=
  let a := BitVec.ofInt k.bits x
  let b := BitVec.ofInt k.bits y
  match op with
  | .and => k.wrap (a &&& b).toNat
  | .or => k.wrap (a ||| b).toNat
  | .xor => k.wrap (a ^^^ b).toNat
  | _ => k.wrap (a &&& ~~~b).toNat

def binInt (op : BinOp) (k : IntKind) (x y : Int) : Option Dv :=
  match op with
  | .add => some ⟨.int k, k.wrap (x + y)⟩
  | .sub => some ⟨.int k, k.wrap (x - y)⟩
  | .mul => some ⟨.int k, k.wrap (x * y)⟩
  | .quo => if y = 0 then none else some ⟨.int k, k.wrap (x.tdiv y)⟩
  | .rem => if y = 0 then none else some ⟨.int k, x.tmod y⟩
  | .and => some ⟨.int k, bits .and k x y⟩
  | .or => some ⟨.int k, bits .or k x y⟩
  | .xor => some ⟨.int k, bits .xor k x y⟩
  | .andNot => some ⟨.int k, bits .andNot k x y⟩
  | .eql => some ⟨.bool, x == y⟩
  | .neq => some ⟨.bool, x != y⟩
  | .lss => some ⟨.bool, decide (x < y)⟩
  | .leq => some ⟨.bool, decide (x ≤ y)⟩
  | .gtr => some ⟨.bool, decide (x > y)⟩
  | .geq => some ⟨.bool, decide (x ≥ y)⟩
  | _ => none

def shiftInt (op : BinOp) (k : IntKind) (x y : Int) : Option Dv :=
  if y < 0 then none else
  match op with
  | .shl => some ⟨.int k, k.wrap (x * 2 ^ min y.toNat k.bits)⟩
  | .shr => some ⟨.int k, x.fdiv (2 ^ min y.toNat k.bits)⟩
  | _ => none

def binStr (op : BinOp) (x y : ByteArray) : Option Dv :=
  match op with
  | .add => if ((x.size + y.size : Nat) : Int) > IntKind.i64.max then none else some ⟨.str, x ++ y⟩
  | .eql => some ⟨.bool, x.toList == y.toList⟩
  | .neq => some ⟨.bool, !(x.toList == y.toList)⟩
  | .lss => some ⟨.bool, Op.bytesLess x.toList y.toList⟩
  | .leq => some ⟨.bool, Op.bytesLess x.toList y.toList || x.toList == y.toList⟩
  | .gtr => some ⟨.bool, !(Op.bytesLess x.toList y.toList || x.toList == y.toList)⟩
  | .geq => some ⟨.bool, !Op.bytesLess x.toList y.toList⟩
  | _ => none

/-- Are two values alike? Only where they lead nowhere. -/
def same : (t : Ty) → t.den → t.den → Bool
  | .int _, x, y => @BEq.beq Int _ x y
  | .bool, x, y => @BEq.beq Bool _ x y
  | .str, x, y => x.toList == y.toList
  | .unit, _, _ => true
  | .prod a b, x, y => same a x.1 y.1 && same b x.2 y.2
  | .slice _, _, _ => false
  | .arr _ _, _, _ => false

def flat : Ty → Bool
  | .int _ => true
  | .bool => true
  | .str => true
  | .unit => true
  | .prod a b => flat a && flat b
  | .slice _ => false
  | .arr _ _ => false

def binAgg (op : BinOp) (t : Ty) (x y : t.den) : Option Dv :=
  match op with
  | .eql => if flat t then some ⟨.bool, same t x y⟩ else none
  | .neq => if flat t then some ⟨.bool, !same t x y⟩ else none
  | _ => none

def bin (op : BinOp) (x y : Dv) : Option Dv :=
  match x, y with
  | ⟨.int k, a⟩, ⟨.int k', b⟩ => match op with
    | .shl => shiftInt .shl k a b
    | .shr => shiftInt .shr k a b
    | _ => if k = k' then binInt op k a b else none
  | ⟨.str, a⟩, ⟨.str, b⟩ => binStr op a b
  | ⟨.bool, a⟩, ⟨.bool, b⟩ => match op with
    | .eql => some ⟨.bool, @BEq.beq Bool _ a b⟩
    | .neq => some ⟨.bool, !(@BEq.beq Bool _ a b)⟩
    | _ => none
  | ⟨.prod a b, v⟩, ⟨u, z⟩ => match castTo u (.prod a b) z with
    | some z => binAgg op (.prod a b) v z
    | none => none
  | _, _ => none

def un (op : UnOp) (x : Dv) : Option Dv :=
  match op, x with
  | .neg, ⟨.int k, a⟩ => some ⟨.int k, k.wrap (0 - a)⟩
  | .xor, ⟨.int k, a⟩ => some ⟨.int k, bits .xor k (if k.signed then -1 else k.max) a⟩
  | .not, ⟨.bool, a⟩ => some ⟨.bool, !a⟩
  | _, _ => none

def strOf (xs : List Int) : ByteArray := ⟨(xs.map fun n => UInt8.ofNat n.toNat).toArray⟩
def bytesOf (s : ByteArray) : List Int := s.data.toList.map fun b => (b.toNat : Int)
def byteAt (s : ByteArray) (i : Nat) : Int := ((s.data.toList.getD i 0).toNat : Int)

def fillT (u : Ty) : u.den → List (Nat × Dv) → Option u.den
  | v, [] => some v
  | v, (i, d) :: r => match u, v with
    | .arr n t, v => match upd (.arr n t) v [.idx i] d.1 d.2 with
      | some v' => fillT (.arr n t) v' r
      | none => none
    | u, v => match upd u v [.fld i] d.1 d.2 with
      | some v' => fillT u v' r
      | none => none

def frzAll : List Lk → List (Option Ty) → Option (List Dv × Ups)
  | [], _ => some ([], [])
  | x :: r, ws => match frz x (ws.headD none), frzAll r ws.tail with
    | some (d, u), some (ds, us) => some (d :: ds, u ++ us)
    | _, _ => none

/-- A value that a call hands back. -/
inductive Res where
  | unit
  | val (d : Dv)
  | own (t : Ty) (xs : List t.den)
  | obj (t : Ty) (x : t.den)
  | tup (l : List Dv)
  | panic (ch : List PanicEntry)

def Res.isPanic : Res → Bool
  | .panic _ => true
  | _ => false

inductive Arg where
  | val (d : Dv)
  | obj (d : Dv)
  | ptr (d : Dv)
  | row (t : Ty) (xs : List t.den)      -- a row that is given for good
  | clo (f : FuncId) (l : List Dv)      -- a function with what it caught
  | ask

def Arg.ty : Arg → Ty
  | .val d => d.1
  | .obj d => d.1
  | .ptr d => d.1
  | .row t _ => .slice t
  | .clo _ _ => .unit
  | .ask => .unit

structure Out where
  res : Res
  ios : List Dv

abbrev Con := List Arg → Option Out
/-- Whether rows are given for good to what keeps this promise. -/
def rowy (con : Con) : Bool := (con [.ask]).isSome
abbrev Cons := FuncId → Option Con

def Res.far : Res → Bool
  | .unit => false
  | .val d => d.1.far
  | .own t _ => t.far
  | .obj t _ => t.far
  | .tup l => l.any (·.1.far)
  | .panic _ => false

def Out.far (o : Out) : Bool := o.res.far || o.ios.any (·.1.far)

def Res.slot (m : Nat) : Res → Slot
  | .unit => .dead
  | .val d => .val d.1 d.2
  | .own t xs => .own m t xs
  | .obj t x => .obj m t x
  | .tup l => .tup l
  | .panic _ => .dead

/-- An argument; the slot that lends it (true: to be written, too), and what that slot holds when it is frozen. -/
structure Lent where
  arg : Arg
  lent : Option (Nat × Slot)     -- a row that is lent to be read, and how it is told if it is frozen
  io : Option (Nat × Nat)        -- an object that is lent to be written: its slot, its stamp

def toArg (x : Lk) (want : Option Ty) : Option Lent :=
  match x.s, x.c with
  | .val t v, _ => some ⟨.val ⟨t, v⟩, none, none⟩
  | .nil, _ => match want with
    | some (.slice t) => some ⟨.val ⟨.slice t, ([] : List t.den)⟩, none, none⟩
    | _ => none
  | .asl n s none, .own n' t xs => if n = n' then some ⟨.val ⟨.slice t, xs⟩, some (s, .val (.slice t) xs), none⟩ else none
  | .asl n s (some (lo, len)), .own n' t xs => if n = n' then some ⟨.val ⟨.slice t, (xs.drop lo).take len⟩, some (s, .val (.slice t) xs), none⟩ else none
  | .apt n s [], .obj n' t v => if n = n' then some ⟨.obj ⟨t, v⟩, none, some (s, n)⟩ else none
  | .rpt t v, _ => some ⟨.ptr ⟨t, v⟩, none, none⟩
  | .clo f l, _ => some ⟨.clo f l, none, none⟩
  | _, _ => none

def toArgR (x : Lk) (want : Option Ty) : Option Lent :=
  match x.s, x.c with
  | .asl n s none, .own n' t xs => if n = n' then some ⟨.row t xs, none, some (s, n)⟩ else none
  | .nil, _ => match want with
    | some (.slice t) => some ⟨.row t ([] : List t.den), none, none⟩
    | _ => none
  | _, _ => toArg x want

def toArgs : List Lk → List (Option Ty) → Option (List Lent)
  | [], _ => some []
  | x :: r, ws => match toArg x (ws.headD none), toArgs r ws.tail with
    | some a, some as => some (a :: as)
    | _, _ => none

def toArgsR : List Lk → List (Option Ty) → Option (List Lent)
  | [], _ => some []
  | x :: r, ws => match toArgR x (ws.headD none), toArgsR r ws.tail with
    | some a, some as => some (a :: as)
    | _, _ => none

def toArgsM (b : Bool) (ls : List Lk) (ws : List (Option Ty)) : Option (List Lent) := if b = true then toArgsR ls ws else toArgs ls ws

def ioUps : List Lent → List Dv → Option Ups
  | [], [] => some []
  | a :: as, ds => match a.io with
    | none => ioUps as ds
    | some (s, n) => match a.arg with
      | .row _ _ => (ioUps as ds).map fun u => (s, .dead) :: u
      | _ => match ds with
      | d :: ds => if a.arg.ty = d.1 then (ioUps as ds).map fun u => (s, .obj n d.1 d.2) :: u else none
      | [] => none
  | [], _ :: _ => none

def nodup : List Nat → Bool
  | [] => true
  | a :: l => !l.contains a && nodup l

def dstFree (d : Option Tmp) (ios : List Nat) : Bool :=
  match d with
  | some d => !ios.contains d
  | none => true

def dstUps (d : Option Tmp) (s : Slot) : Ups :=
  match d with
  | some d => [(d, s)]
  | none => []

def ioOf (a : Lent) : Option Nat := a.io.map (·.1)
def iosOf (as : List Lent) : List Nat := as.filterMap ioOf
def lentsOf (as : List Lent) : Ups := as.filterMap (·.lent)

def callT (con : Con) (d : Option Tmp) (m : Nat) (as : List Lent) : Option Ups :=
  if nodup (iosOf as) && (lentsOf as).all (fun l => !(iosOf as).contains l.1) && dstFree d (iosOf as) then
    match con (as.map (·.arg)) with
    | some out => if out.res.isPanic = true then none else match ioUps as out.ios with
      | some u => some ((if out.far then lentsOf as else []) ++ u ++ dstUps d (out.res.slot m))
      | none => none
    | none => none
  else none

/-- A call that panics. -/
def callP (con : Con) (as : List Lent) : Option (List PanicEntry × Ups) :=
  if nodup (iosOf as) && (lentsOf as).all (fun l => !(iosOf as).contains l.1) then
    match con (as.map (·.arg)) with
    | some out => match out.res with
      | .panic ch => match ioUps as out.ios with
        | some u => some (ch, (if out.far then lentsOf as else []) ++ u)
        | none => none
      | _ => none
    | none => none
  else none

def intOf? (x : Lk) : Option Int :=
  match x.s with
  | .val (.int _) n => some n
  | _ => none

def minInts : Bool → Int → List Lk → IntKind → Option Int
  | _, a, [], _ => some a
  | isMin, a, x :: r, k => match x.s with
    | .val (.int k') b => if k = k' then minInts isMin (if isMin then (if b < a then b else a) else (if a < b then b else a)) r k else none
    | _ => none

/-- Bounds of a cut: low and high, of n elements. -/
def cutB (lo hi : Option Lk) (n : Int) : Option (Nat × Nat) :=
  match lo, hi with
  | none, none => some (0, n.toNat)
  | some l, none => match intOf? l with
    | some l => if 0 ≤ l ∧ l ≤ n then some (l.toNat, n.toNat) else none
    | none => none
  | none, some h => match intOf? h with
    | some h => if 0 ≤ h ∧ h ≤ n then some (0, h.toNat) else none
    | none => none
  | some l, some h => match intOf? l, intOf? h with
    | some l, some h => if 0 ≤ h ∧ h ≤ n then (if 0 ≤ l ∧ l ≤ h then some (l.toNat, h.toNat) else none) else none
    | _, _ => none

section
variable (tab : Tab) (Γ : Cons)

def stepAssign (d : Option Tmp) (m : Nat) (x : Lk) : Option Ups :=
  match d with
  | none => some []
  | some d =>
    match x.s, x.c with
    | .asl n s none, .own n' t xs => if n = n' then (if s = d then some [] else some [(s, .asl m d none), (d, .own m t xs)]) else none
    | .asl n s (some (lo, len)), .own n' t xs =>
      if n = n' then (if s = d then some [(d, .own m t ((xs.drop lo).take len))] else some [(d, .asl n s (some (lo, len)))]) else none
    | .apt n s [], .obj n' t v => if n = n' then (if s = d then some [] else if ghost ≤ s then some [(d, .apt n s [])] else some [(s, .apt m d []), (d, .obj m t v)]) else none
    | s, _ => into (some d) s

def stepStore (t : TypeId) (a v : Lk) : Option Ups :=
  match frz v (ty tab t) with
  | some (y, u) => if ty tab t = some y.1 then
    match a.s, a.c with
    | .apt n s p, .obj n' t' x => if n = n' then
        match upd t' x p y.1 y.2 with
        | some x' => some ((s, .obj n t' x') :: u)
        | none => none
      else none
    | .apt n s (q :: p), .own n' t' xs => if n = n' ∧ u.all (fun z => decide (z.1 ≠ s)) = true then
        match upd (.arr 0 t') xs (q :: p) y.1 y.2 with
        | some xs' => some ((s, .own n t' xs') :: u)
        | none => none
      else none
    | _, _ => none
    else none
  | none => none

def stepIndexAddr (t : TypeId) (x i : Lk) : Option Slot :=
  match intOf? i with
  | none => none
  | some i => match ty tab t with
    | some (.slice u) => match x.s, x.c with
      | .val (.slice u') xs, _ => if u' = u then (if 0 ≤ i ∧ i < (xs.length : Int) then some (.rpt u' (xs.getD i.toNat u'.dflt)) else none) else none
      | .asl n s none, .own n' u' xs => if n = n' ∧ u' = u then (if 0 ≤ i ∧ i < (xs.length : Int) then some (.apt n s [.idx i.toNat]) else none) else none
      | .asl n s (some (lo, len)), .own n' u' xs => if n = n' ∧ u' = u then (if 0 ≤ i ∧ i < (len : Int) then some (.apt n s [.idx (lo + i.toNat)]) else none) else none
      | _, _ => none
    | some (.arr k u) => match aim x with
      | some ⟨.arr k' u', xs⟩ => if k' = k ∧ u' = u then
          (if 0 ≤ i ∧ i < (k : Int) then
            match x.s with
            | .rpt _ _ => some (.rpt u' (xs.getD i.toNat u'.dflt))
            | .apt n s p => some (.apt n s (p ++ [.idx i.toNat]))
            | _ => none
          else none) else none
      | _ => none
    | _ => none

def stepFieldAddr (t : TypeId) (x : Lk) (f : Nat) : Option Slot :=
  match aim x with
  | some ⟨u, v⟩ => if ty tab t = some u then
      match get u v [.fld f] with
      | some y => match x.s with
        | .rpt _ _ => some (.rpt y.1 y.2)
        | .apt n s p => some (.apt n s (p ++ [.fld f]))
        | _ => none
      | none => none
    else none
  | none => none

def stepSlice (t : TypeId) (x : Lk) (lo hi : Option Lk) : Option Slot :=
  match x.s with
  | .val .str s => if ty tab t = some .str then (cutB lo hi (s.size : Int)).map fun p => .val .str (s.extract p.1 p.2) else none
  | .val (.slice u) xs => if ty tab t = some (.slice u) then (cutB lo hi (xs.length : Int)).map fun p => .val (.slice u) ((xs.drop p.1).take (p.2 - p.1)) else none
  | .asl n s none => match x.c with
    | .own n' u xs => if n = n' ∧ ty tab t = some (.slice u) then
        (if lo.isNone = true ∧ hi.isNone = true then some (.asl n s none) else (cutB lo hi (xs.length : Int)).map fun p => .asl n s (some (p.1, p.2 - p.1)))
      else none
    | _ => none
  | .asl n s (some (o, len)) => match x.c with
    | .own n' u xs => if n = n' ∧ ty tab t = some (.slice u) then (cutB lo hi (len : Int)).map fun p => .asl n s (some (o + p.1, p.2 - p.1)) else none
    | _ => none
  | _ => none

/-- The whole or a part of an array variable, as a slice: the variable is only read from then on. -/
def stepArr (t : TypeId) (d : Option Tmp) (x : Lk) (lo hi : Option Lk) : Option Ups :=
  match x.s with
  | .rpt (.arr k u) xs => if k ≤ 1000000 ∧ ty tab t = some (.arr k u) then (cutB lo hi (k : Int)).map fun p => dstUps d (.val (.slice u) ((xs.drop p.1).take (p.2 - p.1))) else none
  | .apt n s [] => match x.c with
    | .obj n' (.arr k u) xs => if n = n' ∧ s < ghost ∧ d ≠ some s ∧ k ≤ 1000000 ∧ ty tab t = some (.arr k u) then (cutB lo hi (k : Int)).map fun p => (s, .rpt (.arr k u) xs) :: dstUps d (.val (.slice u) ((xs.drop p.1).take (p.2 - p.1))) else none
    | _ => none
  | _ => none

def stepSl (t : TypeId) (d : Option Tmp) (x : Lk) (lo hi : Option Lk) : Option Ups :=
  match x.s with
  | .rpt _ _ => stepArr tab t d x lo hi
  | .apt _ _ _ => stepArr tab t d x lo hi
  | _ => match stepSlice tab t x lo hi with
    | some s => into d s
    | none => none

def stepConvert (src dst : TypeId) (d : Option Tmp) (m : Nat) (x : Lk) : Option Ups :=
  match x.s with
  | .val (.int _) n => match ty tab src, ty tab dst with
    | some (.int _), some (.int k') => into d (.val (.int k') (k'.wrap n))
    | _, _ => none
  | .val .str s => match ty tab src, ty tab dst with
    | some .str, some .str => into d (.val .str s)
    | some .str, some (.slice (.int .u8)) => if s.size ≤ 9223372036854775807 then (match d with | some d => some [(d, .own m (.int .u8) (bytesOf s))] | none => none) else none
    | _, _ => none
  | _ => match ty tab src, ty tab dst with
    | some (.slice (.int .u8)), some .str => match slc x with
      | some ⟨.int .u8, xs⟩ => into d (.val .str (strOf xs))
      | _ => none
    | some (.slice (.int .u8)), some (.slice (.int .u8)) => match x.s, x.c, d with
      | .asl n s none, .own n' (.int .u8) xs, some d => if n = n' ∧ src = dst ∧ s ≠ d ∧ xs ≠ [] then some [(s, .dead), (d, .own m (.int .u8) xs)] else none
      | _, _, _ => none
    | _, _ => none

/-- What is appended. -/
def more (u : Ty) (t2 : TypeId) (y : Lk) : Option (List u.den) :=
  match y.s, ty tab t2 with
  | .nil, some (.slice _) => some []
  | .val .str s, some .str => castTo (.slice (.int .u8)) (.slice u) (bytesOf s)
  | .val (.int .i64) n, some (.int .i64) => if 0 ≤ n then some (List.replicate n.toNat u.dflt) else none
  | _, some (.slice _) => match slc y with
    | some ⟨u', ys⟩ => castTo (.slice u') (.slice u) ys
    | none => none
  | _, _ => none

/-- What is appended to, and the slot that loses it. -/
def prior (u : Ty) (x : Lk) : Option (List u.den × Option Nat) :=
  match x.s, x.c with
  | .nil, _ => some ([], none)
  | .asl n s none, .own n' u' xs => if n = n' then (castTo (.slice u') (.slice u) xs).map fun xs => (xs, some s) else none
  | .asl n s (some (0, len)), .own n' u' xs => if n = n' then (castTo (.slice u') (.slice u) xs).map fun xs => (xs.take len, some s) else none
  | _, _ => none

def stepAppend (t t2 : TypeId) (d : Option Tmp) (m : Nat) (x y : Lk) : Option Ups :=
  match d, ty tab t with
  | some d, some (.slice u) =>
    match more tab u t2 y, prior u x with
    | some ys, some (xs, s) =>
      if (xs.length + ys.length) * u.mx ≤ 140737488355328 then
        some ((match s with | some s => [(s, .dead)] | none => []) ++ [(d, .own m u (xs ++ ys))])
      else none
    | _, _ => none
  | _, _ => none

/-- A row of which a part is another one. -/
def over {α : Type} (xs ys : List α) (lo : Nat) : List α := xs.take lo ++ ys ++ xs.drop (lo + ys.length)
def spanOf (n : Nat) : Option (Nat × Nat) → Nat × Nat
  | none => (0, n)
  | some p => p
def noInt : Option Ty → Bool
  | some (.int _) => false
  | _ => true
def stepCopy (t t2 : TypeId) (d : Option Tmp) (x y : Lk) : Option Ups :=
  match x.s, x.c with
  | .asl n s rg, .own n' u xs => if n = n' ∧ ty tab t = some (.slice u) ∧ d ≠ some s ∧ noInt (ty tab t2) = true then
      (more tab u t2 y).map fun ys => (s, .own n u (over xs (ys.take (spanOf xs.length rg).2) (spanOf xs.length rg).1)) :: dstUps d (.val (.int .i64) ((min ys.length (spanOf xs.length rg).2 : Nat) : Int))
    else none
  | _, _ => none
def stepClear (t : TypeId) (d : Option Tmp) (x : Lk) : Option Ups :=
  match x.s, x.c with
  | .asl n s rg, .own n' u xs => if n = n' ∧ ty tab t = some (.slice u) ∧ d ≠ some s then
      some ((s, .own n u (over xs (List.replicate (spanOf xs.length rg).2 u.dflt) (spanOf xs.length rg).1)) :: dstUps d (.tup []))
    else none
  | _, _ => none
end

end Go.Tm

/- Operands: what stands in a slot, and what the machine has there. -/
set_option linter.unusedVariables false
set_option linter.unusedSimpArgs false
namespace Go.Tm

structure Env where
  n : Nat
  g : Nat → Value
  le : n ≤ ghost
  d : List Deferred

structure Link (N : Env) (V : Nat → Value) (a : Act) : Prop where
  size : a.tmps.size = N.n
  val : ∀ k, k < ghost → V k = a.tmps.getD k undef
  lent : ∀ k, ghost ≤ k → V k = N.g k
  defers : a.defers = N.d

theorem Link.put {N : Env} {V : Nat → Value} {a : Act} (h : Link N V a) {d : Nat} (hd : d < N.n) (v : Value) : Link N (put V d v) (a.put (some d) v) := by
  refine ⟨by simpa [Act.put] using h.size, fun k hk => ?_, fun k hk => ?_, h.defers⟩
  · simp only [Act.put, Tm.put]
    rw [Array.getD_eq_getD_getElem?, Array.getElem?_setIfInBounds]
    by_cases hkd : k = d
    · subst hkd
      simp [h.size, hd]
    · rw [if_neg hkd, if_neg (by omega), h.val k hk, Array.getD_eq_getD_getElem?]
  · have := N.le
    rw [put_ne _ _ (by omega)]
    exact h.lent k hk

structure LkOK (R : Nat → Prop) (st : St) (V : Nat → Value) (w : World) (l : Lk) (v : Value) : Prop where
  rep : SlotRep w R st V l.s v
  low : owning l.s = false
  own : ∀ n k, aliasOf l.s = some (n, k) → l.c = st k

theorem self_low (t : Nat) (s : Slot) : owning (self t s) = false := by cases s <;> rfl

theorem cst_low {v : Value} {s : Slot} (h : cst v = some s) : owning s = false ∧ aliasOf s = none := by
  unfold cst at h
  split at h <;> first | (cases h; done) | (injection h with h; subst h; exact ⟨rfl, rfl⟩)

theorem cst_rep {v : Value} {s : Slot} (h : cst v = some s) (w : World) (R : Nat → Prop) (st : St) (V : Nat → Value) : SlotRep w R st V s v := by
  unfold cst at h
  split at h <;> first
    | (cases h; done)
    | (injection h with h; subst h; exact ⟨_, rfl, rfl⟩)
    | (injection h with h; subst h; rfl)
    | (injection h with h; subst h; exact trivial)

theorem self_rep {B : World} {R0 L : Nat → Prop} {st : St} {V : Nat → Value} {w : World} (hg : Good B R0 L st V w) (t : Nat) : SlotRep w (RO B R0 st V) st V (self t (st t)) (V t) := by
  have h := hg.rep t
  cases hs : st t with
  | own n ty xs =>
    rw [hs] at h
    intro ty' xs' _
    rfl
  | obj n ty x =>
    rw [hs] at h
    obtain ⟨ad, cs, hv, h1, h2⟩ := h
    refine ⟨fun ty' x' h' => ⟨ad, hv, ?_⟩, fun ty' xs' h' => ?_⟩
    · have : offs ty' [] = 0 := by cases ty' <;> rfl
      rw [this, add_zero, hv]
    · rw [hs] at h'
      cases h'
  | dead => exact trivial
  | val ty x => rw [hs] at h; exact h
  | nil => rw [hs] at h; exact h
  | asl n s rg => rw [hs] at h; exact h
  | apt n s p => rw [hs] at h; exact h
  | rpt ty x => rw [hs] at h; exact h
  | tup l => rw [hs] at h; exact h
  | ifc T ty x => rw [hs] at h; exact h
  | clo f l => rw [hs] at h; exact h

theorem look_ok {B : World} {R0 L : Nat → Prop} {st : St} {V : Nat → Value} {w : World} {N : Env} {a : Act} (hg : Good B R0 L st V w) (hl : Link N V a) {x : Operand} {l : Lk}
    (h : look st x = some l) : LkOK (RO B R0 st V) st V w l (a.eval x) := by
  simp only [look, Option.map_eq_some_iff] at h
  obtain ⟨s, hs, rfl⟩ := h
  cases x with
  | tmp t =>
    simp only [ref] at hs
    split at hs
    · rename_i hlt
      injection hs with hs
      subst hs
      refine ⟨?_, self_low _ _, fun n k hk => by simp only [hk]⟩
      have := self_rep hg t
      rw [hl.val t hlt] at this
      exact this
    · cases hs
  | const v =>
    simp only [ref] at hs
    exact ⟨cst_rep hs _ _ _ _, (cst_low hs).1, fun n k hk => by rw [(cst_low hs).2] at hk; cases hk⟩
  | global g => simp [ref] at hs
  | func f =>
    simp only [ref] at hs
    injection hs with hs
    subst hs
    exact ⟨⟨[], rfl, rfl⟩, rfl, fun n k hk => by cases hk⟩

theorem slc_ok {B : World} {R0 L : Nat → Prop} {st : St} {V : Nat → Value} {w : World} (hg : Good B R0 L st V w) {l : Lk} {v : Value} (h : LkOK (RO B R0 st V) st V w l v) {t : Ty} {xs : List t.den}
    (hx : slc l = some ⟨t, xs⟩) : ∃ A c cs, v = .slice A xs.length c ∧ xs.length ≤ c ∧ c ≤ maxLen ∧ repList (rep w (RO B R0 st V) t) xs cs ∧ (xs = [] ∨ ∃ ad, A = some ad ∧ lies w ad cs) := by
  obtain ⟨s, c⟩ := l
  have hr := h.rep
  have ho := h.own
  simp only at hr ho
  unfold slc at hx
  simp only at hx
  split at hx
  · rename_i t' xs'
    injection hx with hx
    cases hx
    obtain ⟨cs, ⟨A, c, rfl, h1, h2, h3⟩, rfl⟩ := hr
    rcases h3 with h3 | ⟨ad, inner, rfl, h4, h5, h6, h7⟩
    · exact ⟨A, c, [], by simp [mkv, Ty.agg], h1, h2, by rw [h3]; rfl, .inl h3⟩
    · exact ⟨some ad, c, inner, by simp [mkv, Ty.agg], h1, h2, h6, .inr ⟨ad, rfl, h7⟩⟩
  · rename_i n k n' t' xs'
    split at hx
    · rename_i hn
      subst hn
      injection hx with hx
      cases hx
      have hk := ho n k rfl
      have hv := hr _ _ hk.symm
      subst hv
      have := hg.rep k
      rw [← hk] at this
      obtain ⟨A, c, cs, hv, h1, h2, h3, h4⟩ := this
      rw [hv]
      refine ⟨A, c, cs, rfl, h1, h2, h3, ?_⟩
      rcases h4 with ⟨rfl, rfl⟩ | ⟨ad, rfl, hm⟩
      · exact .inl (List.eq_nil_of_length_eq_zero (by omega))
      · exact .inr ⟨ad, rfl, hm.lies⟩
    · cases hx
  · rename_i n k lo len n' t' xs'
    split at hx
    · rename_i hn
      subst hn
      injection hx with hx
      cases hx
      have hk := ho n k rfl
      obtain ⟨h0, A, L', c, A', hV, rfl, h8⟩ := hr _ _ hk.symm
      have := hg.rep k
      rw [← hk] at this
      obtain ⟨A2, c2, cs, hv, h1, h2, h3, h4⟩ := this
      rw [hv] at hV
      injection hV with e1 e2 e3
      subst e1 e2 e3
      have hlen : ((xs'.drop lo).take len).length = len := by simp; omega
      refine ⟨A', c2 - lo, (cs.drop (lo * t.sz)).take (len * t.sz), by rw [hlen], by rw [hlen]; omega, by omega, ?_, ?_⟩
      · exact (h3.drop (fun x c hx => rep_len t hx) lo).take (fun x c hx => rep_len t hx) len
      · rcases Nat.eq_zero_or_pos len with hz | hp
        · exact .inl (List.eq_nil_of_length_eq_zero (by rw [hlen]; exact hz))
        · rcases h4 with ⟨h4, h5⟩ | ⟨ad2, h4, hm⟩
          · omega
          · rcases h8 with ⟨h8, _⟩ | ⟨ad, j, hA, hA', _, hj⟩
            · rw [h8] at h4; cases h4
            · rw [hA] at h4
              injection h4 with h4
              subst h4
              rw [hj (by omega)] at hA'
              exact .inr ⟨_, hA', lies_mid hm.lies _ _⟩
    · cases hx
  · cases hx

/-- A row of the call's own is told as one that is only read. -/
theorem Good.freeze {B : World} {R0 L : Nat → Prop} {st : St} {V : Nat → Value} {w : World} (hg : Good B R0 L st V w) {s n : Nat} {t : Ty} {xs : List t.den} (hs : st s = .own n t xs) :
    Good B R0 L (Tm.put st s (.val (.slice t) xs)) V w := by
  refine hg.change (fun k => k = s) rfl rfl rfl (Nat.le_refl _) (fun _ _ _ => rfl) (fun k hk => ⟨put_ne _ _ hk, rfl⟩) ?_ ?_ ?_ ?_
  · rintro hR k rfl
    have h := hg.rep k
    rw [hs] at h
    simp only [put_same]
    obtain ⟨A, c, cs, hv, h1, h2, h3, h4⟩ := h
    refine ⟨[V k], ⟨A, c, by rw [hv], h1, h2, ?_⟩, by simp [mkv, Ty.agg]⟩
    rcases h4 with ⟨rfl, rfl⟩ | ⟨ad, rfl, hm⟩
    · exact .inl (List.eq_nil_of_length_eq_zero (by omega))
    · refine .inr ⟨ad, cs, rfl, ⟨?_, fun k' hk' => ?_⟩, hm.block_lt, h3.imp (fun x c _ hx => rep_mono (Nat.le_refl _) hR (fun _ _ _ => rfl) t hx), hm.lies⟩
      · rcases hg.mine k ad.block (by rw [hs, hv]; rfl) with ⟨_, ⟨h5, _⟩ | ⟨_, h5⟩⟩ | h5
        · rw [hs] at h5; cases h5
        · exact .inl h5
        · exact .inr h5
      · by_cases e : k' = k
        · subst e
          simp [put_same, ownBlk] at hk'
        · rw [put_ne _ _ e] at hk'
          exact e (hg.sep _ _ _ hk' (by rw [hs, hv]; rfl))
  · rintro k b rfl h
    simp only [put_same, ownBlk] at h
    cases h
  · rintro i j b rfl rfl _ _
    rfl
  · rintro k n' s' hk rfl ha
    simp only [put_same]
    exact ⟨(fun t xs' h => by cases h), (fun t x' h => by cases h)⟩

def app (ups : Ups) (st : St) : St := ups.foldl (fun f u => put f u.1 u.2) st
@[simp] theorem app_nil (st : St) : app [] st = st := rfl
@[simp] theorem app_cons (u : Nat × Slot) (r : Ups) (st : St) : app (u :: r) st = app r (put st u.1 u.2) := rfl
theorem app_append (u v : Ups) (st : St) : app (u ++ v) st = app v (app u st) := by simp [app, List.foldl_append]

theorem Good.mono_rep {B : World} {R0 L : Nat → Prop} {st st' : St} {V : Nat → Value} {w : World} (hR : ∀ b, b < w.heap.size → RO B R0 st V b → RO B R0 st' V b) {t : Ty} {x : t.den} {v : Value}
    (h : vrep w (RO B R0 st V) t x v) : vrep w (RO B R0 st' V) t x v := vrep_mono (Nat.le_refl _) hR (fun _ _ _ => rfl) h

theorem RO_freeze {B : World} {R0 : Nat → Prop} {st : St} {V : Nat → Value} {s : Nat} {s' : Slot} (h : owning s' = false) (b : Nat) (hb : RO B R0 st V b) : RO B R0 (put st s s') V b := by
  refine ⟨hb.1, fun k hk => ?_⟩
  by_cases e : k = s
  · subst e
    rw [put_same, ownBlk_none h] at hk
    cases hk
  · rw [put_ne _ _ e] at hk
    exact hb.2 k hk

theorem frz_ok {B : World} {R0 L : Nat → Prop} {st : St} {V : Nat → Value} {w : World} (hg : Good B R0 L st V w) {l : Lk} {v : Value} (h : LkOK (RO B R0 st V) st V w l v) {want : Option Ty} {d : Dv} {u : Ups}
    (hf : frz l want = some (d, u)) : Good B R0 L (app u st) V w ∧ vrep w (RO B R0 (app u st) V) d.1 d.2 v ∧
      (u = [] ∨ ∃ s n t xs, u = [(s, .val (.slice t) xs)] ∧ st s = .own n t xs) := by
  obtain ⟨s, c⟩ := l
  have hr := h.rep
  have ho := h.own
  have hslc := @slc_ok B R0 L st V w hg ⟨s, c⟩ v h
  simp only at hr ho
  unfold frz at hf
  simp only at hf
  split at hf
  · simp only [Option.some.injEq, Prod.mk.injEq] at hf
    obtain ⟨rfl, rfl⟩ := hf
    exact ⟨hg, hr, .inl rfl⟩
  · split at hf
    · simp only [Option.some.injEq, Prod.mk.injEq] at hf
      obtain ⟨rfl, rfl⟩ := hf
      refine ⟨hg, ⟨[.slice none 0 0], ⟨none, 0, rfl, Nat.le_refl _, Nat.zero_le _, .inl rfl⟩, ?_⟩, .inl rfl⟩
      simp only [SlotRep] at hr
      simp [hr, mkv, Ty.agg]
    · cases hf
  · rename_i n k n' t' xs'
    split at hf
    · rename_i hn
      subst hn
      simp only [Option.some.injEq, Prod.mk.injEq] at hf
      obtain ⟨rfl, rfl⟩ := hf
      have hk := ho n k rfl
      have hg' := hg.freeze hk.symm
      refine ⟨hg', ?_, .inr ⟨k, n, t', xs', rfl, hk.symm⟩⟩
      have hv := hr _ _ hk.symm
      subst hv
      have := hg'.rep k
      rw [put_same] at this
      exact this
    · cases hf
  · rename_i n k lo len n' t' xs'
    split at hf
    · rename_i hn
      subst hn
      simp only [Option.some.injEq, Prod.mk.injEq] at hf
      obtain ⟨rfl, rfl⟩ := hf
      have hk := ho n k rfl
      have hg' := hg.freeze hk.symm
      refine ⟨hg', ?_, .inr ⟨k, n, t', xs', rfl, hk.symm⟩⟩
      obtain ⟨A, c, cs, rfl, h1, h2, h3, h4⟩ := @slc_ok B R0 L st V w hg _ v h t' ((xs'.drop lo).take len) (by simp [slc])
      refine ⟨_, ⟨A, c, rfl, h1, h2, ?_⟩, by simp [mkv, Ty.agg]⟩
      rcases h4 with h4 | ⟨ad, rfl, h5⟩
      · exact .inl h4
      · by_cases he : (xs'.drop lo).take len = []
        · exact .inl he
        · obtain ⟨h0, A, L', c', A', hV, hv, h8⟩ := hr _ _ hk.symm
          injection hv with hv1 hv2 hv3
          obtain ⟨ad', j, hA, hA'⟩ : ∃ ad' j, A = some ad' ∧ A' = some (ad'.add j) := by
            rcases h8 with ⟨_, h8⟩ | ⟨ad', j, h8, h9, _⟩
            · rw [h8] at hv1; cases hv1
            · exact ⟨ad', j, h8, h9⟩
          rw [hA'] at hv1
          injection hv1 with hv1
          subst hv1
          have hb : ownBlk (st k) (V k) = some ad'.block := by rw [← hk, hV, hA]; rfl
          refine .inr ⟨_, cs, rfl, ⟨?_, fun k' hk' => ?_⟩, ?_, h3.imp (fun x c _ hx => rep_mono (Nat.le_refl _) (fun b _ hb => RO_freeze (by rfl) b hb) (fun _ _ _ => rfl) _ hx), h5⟩
          · rw [add_block]
            rcases hg.mine k ad'.block hb with ⟨_, ⟨h6, _⟩ | ⟨_, h6⟩⟩ | h6
            · rw [← hk] at h6; cases h6
            · exact .inl h6
            · exact .inr h6
          · rw [add_block] at hk'
            by_cases e : k' = k
            · subst e
              simp [put_same, ownBlk] at hk'
            · have e2 : app [(k, Slot.val (.slice t') xs')] st k' = st k' := put_ne _ _ e
              rw [e2] at hk'
              exact e (hg.sep _ _ _ hk' hb)
          · rw [add_block]
            exact ownBlk_lt (hg.rep k) hb
    · cases hf
  · cases hf

end Go.Tm

/- Operations on values: the machine's answers are the plain functions'. -/
set_option linter.unusedVariables false
set_option linter.unusedSimpArgs false
namespace Go.Tm

section
variable {w : World} {R : Nat → Prop} {v : Value}
theorem vrep_int {k : IntKind} {x : Int} (h : vrep w R (.int k) x v) : v = .int k x := by obtain ⟨cs, rfl, rfl⟩ := h; rfl
theorem vrep_bool {x : Bool} (h : vrep w R .bool x v) : v = .bool x := by obtain ⟨cs, rfl, rfl⟩ := h; rfl
theorem vrep_str {x : ByteArray} (h : vrep w R .str x v) : v = .string x := by obtain ⟨cs, rfl, rfl⟩ := h; rfl
theorem mk_int (w : World) (R : Nat → Prop) (k : IntKind) (x : Int) : vrep w R (.int k) x (.int k x) := ⟨_, rfl, rfl⟩
theorem mk_bool (w : World) (R : Nat → Prop) (x : Bool) : vrep w R .bool x (.bool x) := ⟨_, rfl, rfl⟩
theorem mk_str (w : World) (R : Nat → Prop) (x : ByteArray) : vrep w R .str x (.string x) := ⟨_, rfl, rfl⟩
end

def Ty.deep : Ty → Nat
  | .prod a b => max (a.deep + 1) b.deep
  | _ => 0

section
variable {P : Program} {tab : Tab} (ok : TabOK P tab)
include ok

theorem tm_part {t : TypeId} {u : Ty} (h : ty tab t = some u) {w : World} {R : Nat → Prop} {x : u.den} {all cs : List Value} {off : Nat} (hc : (all.drop off).take u.sz = cs) (hr : rep w R u x cs) :
    (part t all.toArray off).run P w = .ok (mkv u cs) w := by
  unfold part
  rw [Sem.run_bind, tm_isAgg ok h]
  simp only [Result.andThen_ok]
  cases ha : u.agg with
  | true =>
    simp only [if_true, Sem.run_bind, tm_sizeOf ok h, Result.andThen_ok, Sem.run_pure]
    simp [mkv, ha, ← hc, List.extract_eq_take_drop]
  | false =>
    have h1 := agg_one ha
    have hl := rep_len _ hr
    rw [h1] at hl hc
    obtain ⟨c, rfl⟩ := List.length_eq_one_iff.1 hl
    have : all[off]? = some c := by
      have := congrArg (fun l : List Value => l[0]?) hc
      simpa using this
    simp [this, mkv, ha]

theorem eq_both (w : World) (R : Nat → Prop) : ∀ u : Ty, flat u = true →
    (∀ (t : TypeId) (d : Nat) (x y : u.den) (cs ds : List Value), ty tab t = some u → u.deep < d → rep w R u x cs → rep w R u y ds → (Op.equalIn d t (mkv u cs) (mkv u ds)).run P w = .ok (same u x y) w) ∧
    (∀ (fs : List Field) (d : Nat) (x y : u.den) (off : Nat) (xs ys cs ds : List Value), fieldsOK tab fs u off = true → u.deep ≤ d → rep w R u x cs → rep w R u y ds → xs.drop off = cs → ys.drop off = ds →
      (Op.eqFields d xs.toArray ys.toArray fs).run P w = .ok (same u x y) w) := by
  intro u
  induction u with
  | int k =>
    intro _
    refine ⟨fun t d x y cs ds h hd hx hy => ?_, fun fs d x y off xs ys cs ds hf => ?_⟩
    · simp only [rep] at hx hy
      subst hx hy
      obtain ⟨d, rfl⟩ : ∃ n, d = n + 1 := ⟨d - 1, by omega⟩
      exact run_equalIn_int w d t k k x y (tab_int ok h)
    · cases fs <;> simp [fieldsOK] at hf
  | bool =>
    intro _
    refine ⟨fun t d x y cs ds h hd hx hy => ?_, fun fs d x y off xs ys cs ds hf => ?_⟩
    · simp only [rep] at hx hy
      subst hx hy
      obtain ⟨d, rfl⟩ : ∃ n, d = n + 1 := ⟨d - 1, by omega⟩
      exact run_equalIn_bool' w d t x y (tab_bool ok h)
    · cases fs <;> simp [fieldsOK] at hf
  | str =>
    intro _
    refine ⟨fun t d x y cs ds h hd hx hy => ?_, fun fs d x y off xs ys cs ds hf => ?_⟩
    · simp only [rep] at hx hy
      subst hx hy
      obtain ⟨d, rfl⟩ : ∃ n, d = n + 1 := ⟨d - 1, by omega⟩
      exact run_equalIn_string w d t x y (tab_str ok h)
    · cases fs <;> simp [fieldsOK] at hf
  | unit =>
    intro _
    have key : ∀ (fs : List Field) (d : Nat) (off : Nat) (xs ys : List Value), fieldsOK tab fs .unit off = true → (Op.eqFields d xs.toArray ys.toArray fs).run P w = .ok true w := by
      intro fs d off xs ys hf
      cases fs with
      | nil => simp [Op.eqFields]
      | cons f fs => simp [fieldsOK] at hf
    refine ⟨fun t d x y cs ds h hd hx hy => ?_, fun fs d x y off xs ys cs ds hf _ _ _ _ _ => key _ _ _ _ _ hf⟩
    obtain ⟨d, rfl⟩ : ∃ n, d = n + 1 := ⟨d - 1, by omega⟩
    obtain ⟨fs, h1, h2⟩ := tab_struct ok h (.inl rfl)
    have hfs : P.fieldsOf t = fs := by simp [Program.fieldsOf, h1]
    show (Op.equalIn (d + 1) t (.agg cs.toArray) (.agg ds.toArray)).run P w = _
    rw [run_equalIn_struct w d t _ _ (by rw [hfs]; exact h1) (tab_under ok h).2.2, hfs]
    exact key _ _ _ _ _ h2
  | prod a b iha ihb =>
    intro hfl
    simp only [flat, Bool.and_eq_true] at hfl
    have key : ∀ (fs : List Field) (d : Nat) (x y : (Ty.prod a b).den) (off : Nat) (xs ys cs ds : List Value), fieldsOK tab fs (.prod a b) off = true → (Ty.prod a b).deep ≤ d → rep w R (.prod a b) x cs → rep w R (.prod a b) y ds →
        xs.drop off = cs → ys.drop off = ds → (Op.eqFields d xs.toArray ys.toArray fs).run P w = .ok (same (.prod a b) x y) w := by
      intro fs d x y off xs ys cs ds hf hd hx hy hcx hcy
      cases fs with
      | nil => simp [fieldsOK] at hf
      | cons f fs =>
        simp only [fieldsOK, Bool.and_eq_true, beq_iff_eq, bne_iff_ne, decide_eq_true_eq] at hf
        obtain ⟨⟨⟨⟨ho, hn⟩, ht⟩, hz⟩, hr⟩ := hf
        obtain ⟨c1, c2, e1, x1, x2⟩ := hx
        obtain ⟨d1, d2, e2, y1, y2⟩ := hy
        have l1 := rep_len _ x1
        have l2 := rep_len _ y1
        have p1 := tm_part ok ht (all := xs) (off := off) (cs := c1) (by rw [hcx, e1, ← l1, List.take_left']; rfl) x1
        have p2 := tm_part ok ht (all := ys) (off := off) (cs := d1) (by rw [hcy, e2, ← l2, List.take_left']; rfl) y1
        simp only [Ty.deep] at hd
        have q := (iha hfl.1).1 f.type d x.1 y.1 c1 d1 ht (by omega) x1 y1
        have q2 := (ihb hfl.2).2 fs d x.2 y.2 (off + a.sz) xs ys c2 d2 hr (by omega) x2 y2
          (by rw [← List.drop_drop, hcx, e1, ← l1, List.drop_left']; rfl) (by rw [← List.drop_drop, hcy, e2, ← l2, List.drop_left']; rfl)
        rw [Op.eqFields]
        rw [if_pos hn]
        simp only [Sem.run_bind, ho, p1, p2, q, Result.andThen_ok, same]
        cases same a x.1 y.1 with
        | false => simp
        | true => simpa using q2
    refine ⟨fun t d x y cs ds h hd hx hy => ?_, key⟩
    obtain ⟨d, rfl⟩ : ∃ n, d = n + 1 := ⟨d - 1, by omega⟩
    obtain ⟨fs, h1, h2⟩ := tab_struct ok h (.inr ⟨a, b, rfl⟩)
    have hfs : P.fieldsOf t = fs := by simp [Program.fieldsOf, h1]
    show (Op.equalIn (d + 1) t (.agg cs.toArray) (.agg ds.toArray)).run P w = _
    rw [run_equalIn_struct w d t _ _ (by rw [hfs]; exact h1) (tab_under ok h).2.2, hfs]
    exact key _ _ _ _ 0 _ _ _ _ h2 (by omega) hx hy rfl rfl
  | slice t _ => intro h; simp [flat] at h
  | arr n t _ => intro h; simp [flat] at h

theorem bin_ok {w : World} {R : Nat → Prop} {op : BinOp} {xt : TypeId} {X Y : Operand} {x y d : Dv} {v1 v2 : Value} (hx : vrep w R x.1 x.2 v1) (hy : vrep w R y.1 y.2 v2) (h : bin op x y = some d)
    (hty : ∀ a b, x.1 = .prod a b → ty tab xt = some x.1 ∧ x.1.deep < 10000) (hbool : x.1 = .bool → ty tab xt = some .bool) :
    ∃ v, ((do eqGuard op xt X Y v1 v2; binOp op xt v1 v2) : Sem Value).run P w = .ok v w ∧ vrep w R d.1 d.2 v := by
  obtain ⟨xt', xv⟩ := x
  obtain ⟨yt', yv⟩ := y
  unfold bin at h
  split at h
  · rename_i k a k' b e1 e2
    cases e1
    cases e2
    have e1 := vrep_int hx
    have e2 := vrep_int hy
    subst e1 e2
    have hg : (eqGuard op xt X Y (.int k a) (.int k' b)).run P w = .ok () w := by cases op <;> simp [eqGuard]
    simp only [Sem.run_bind, hg, Result.andThen_ok]
    split at h
    · unfold shiftInt at h
      split at h
      · cases h
      · rename_i hy0
        injection h with h
        subst h
        exact ⟨_, by simp [binOp, Op.shift, hy0], mk_int _ _ _ _⟩
    · unfold shiftInt at h
      split at h
      · cases h
      · rename_i hy0
        injection h with h
        subst h
        exact ⟨_, by simp [binOp, Op.shift, hy0], mk_int _ _ _ _⟩
    · split at h
      · rename_i hk
        subst hk
        cases op <;> simp only [binInt] at h <;> first
          | (cases h; done)
          | (contradiction)
          | (injection h with h; subst h; exact ⟨_, by simp [binOp, Op.intArith, Op.intCmp, Op.intBits, bits], mk_int _ _ _ _⟩)
          | (injection h with h; subst h; refine ⟨.bool _, ?_, mk_bool _ _ _⟩; simp [binOp, Op.intCmp]; done)
          | (injection h with h; subst h; refine ⟨.bool _, ?_, mk_bool _ _ _⟩; rfl)
          | (split at h <;> first | (cases h; done) | (rename_i h0; injection h with h; subst h; exact ⟨_, by simp [binOp, Op.intDiv, h0], mk_int _ _ _ _⟩))
      · cases h
  · rename_i a b e1 e2
    cases e1
    cases e2
    have e1 := vrep_str hx
    have e2 := vrep_str hy
    subst e1 e2
    have hg : (eqGuard op xt X Y (.string a) (.string b)).run P w = .ok () w := by cases op <;> simp [eqGuard]
    simp only [Sem.run_bind, hg, Result.andThen_ok]
    cases op <;> simp only [binStr] at h <;> first
      | (cases h; done)
      | (injection h with h; subst h; refine ⟨.bool _, ?_, mk_bool _ _ _⟩; rfl)
      | (split at h <;> first | (cases h; done) | (rename_i h0; injection h with h; subst h; refine ⟨.string _, ?_, mk_str _ _ _⟩; simp only [binOp, Op.stringOp]; rw [if_neg h0]; rfl))
  · rename_i a b e1 e2
    cases e1
    cases e2
    have e1 := vrep_bool hx
    have e2 := vrep_bool hy
    subst e1 e2
    have hg : (eqGuard op xt X Y (.bool a) (.bool b)).run P w = .ok () w := by cases op <;> simp [eqGuard]
    simp only [Sem.run_bind, hg, Result.andThen_ok]
    have hb := hbool rfl
    split at h
    · injection h with h
      subst h
      refine ⟨.bool _, ?_, mk_bool _ _ _⟩
      simp [binOp, Op.equal, Op.maxDepth, run_equalIn_bool' w 9999 xt a b (tab_bool ok hb)]
    · injection h with h
      subst h
      refine ⟨.bool _, ?_, mk_bool _ _ _⟩
      simp [binOp, Op.equal, Op.maxDepth, run_equalIn_bool' w 9999 xt a b (tab_bool ok hb)]
    · cases h
  · rename_i a b v u z e1 e2
    cases e1
    cases e2
    split at h
    · rename_i z' hz
      unfold castTo at hz
      split at hz
      · rename_i hu
        cases hu
        simp only [Option.some.injEq] at hz
        subst hz
        obtain ⟨ht, hd⟩ := hty _ _ rfl
        obtain ⟨cs, hx, rfl⟩ := hx
        obtain ⟨ds, hy, rfl⟩ := hy
        have hg : (eqGuard op xt X Y (mkv (.prod a b) cs) (mkv (.prod a b) ds)).run P w = .ok () w := run_eqGuard_agg w op xt X Y _ _ (tab_under ok ht).2.1
        simp only [Sem.run_bind, hg, Result.andThen_ok]
        unfold binAgg at h
        split at h
        · split at h
          · rename_i hf
            injection h with h
            subst h
            have := (eq_both ok w R _ hf).1 xt 10000 _ _ _ _ ht hd hx hy
            refine ⟨.bool _, ?_, mk_bool _ _ _⟩
            show (binOp .eql xt (.agg cs.toArray) (.agg ds.toArray)).run P w = _
            rw [run_eql_struct]
            simp only [mkv, Ty.agg, if_true] at this
            rw [this]
            rfl
          · cases h
        · split at h
          · rename_i hf
            injection h with h
            subst h
            have := (eq_both ok w R _ hf).1 xt 10000 _ _ _ _ ht hd hx hy
            refine ⟨.bool _, ?_, mk_bool _ _ _⟩
            show (binOp .neq xt (.agg cs.toArray) (.agg ds.toArray)).run P w = _
            rw [run_neq_struct]
            simp only [mkv, Ty.agg, if_true] at this
            rw [this]
            rfl
          · cases h
        · cases h
      · cases hz
    · cases h
  · cases h
end

end Go.Tm

/- What an operation does, step by step: moves, values, new variables, loads and stores. -/
set_option linter.unusedVariables false
set_option linter.unusedSimpArgs false
namespace Go.Tm

def putO {α : Type} (V : Nat → α) (d : Option Tmp) (v : α) : Nat → α :=
  match d with
  | some d => put V d v
  | none => V

def Fresh (m : Nat) (st : St) : Prop := ∀ k n s, aliasOf (st k) = some (n, s) → n ≠ m

/-- The operation ends, and frame and world are as the new state says. -/
def Did (P : Program) (B : World) (R0 L : Nat → Prop) (st : St) (V : Nat → Value) (w : World) (a : Act) (o : Oper) (ups : Ups) : Prop :=
  ∃ v w', ((execOp a.eval o).run P w = .ok (.value v) w' ∨ ((execOp a.eval o).run P w = .ok .skip w' ∧ o.dst = none)) ∧ Good B R0 L (app ups st) (putO V o.dst v) w'

section
variable {P : Program} {tab : Tab} {B : World} {R0 L : Nat → Prop} {st : St} {V : Nat → Value} {w : World} {N : Env} {a : Act} {o : Oper} {ups : Ups} {m : Nat}

theorem did_into (hg : Good B R0 L st V w) {v : Value} {s : Slot} (hr : (execOp a.eval o).run P w = .ok (.value v) w) (hrep : SlotRep w (RO B R0 st V) st V s v) (hlow : owning s = false)
    (hi : into o.dst s = some ups) : Did P B R0 L st V w a o ups := by
  refine ⟨v, w, .inl hr, ?_⟩
  unfold into at hi
  split at hi
  · rename_i h
    injection hi with hi
    subst hi
    simpa [putO, h] using hg
  · rename_i d h
    split at hi
    · cases hi
    · rename_i hne
      injection hi with hi
      subst hi
      simp only [putO, h, app_cons, app_nil]
      refine hg.put d s v hlow rfl rfl rfl rfl hrep (fun n e => hne ?_)
      rw [e]
      rfl

theorem Good.fresh (hg : Good B R0 L st V w) (d : Nat) (s : Slot) (v : Value) {w' : World} (hb : But w none w')
    (hrep : (∀ b, b < w.heap.size → RO B R0 st V b → RO B R0 (Tm.put st d s) (Tm.put V d v) b) → SlotRep w' (RO B R0 (Tm.put st d s) (Tm.put V d v)) (Tm.put st d s) (Tm.put V d v) s v)
    (hown : ∀ b, ownBlk s v = some b → w.heap.size ≤ b) (hfresh : ∀ k n, aliasOf (st k) = some (n, d) → (∀ t xs, s ≠ .own n t xs) ∧ (∀ t x, s ≠ .obj n t x)) :
    Good B R0 L (Tm.put st d s) (Tm.put V d v) w' := by
  refine hg.change (fun k => k = d) hb.os hb.tape hb.output hb.size (fun b hlt _ => hb.block b hlt (fun ad h => by cases h)) (fun k hk => ⟨put_ne _ _ hk, put_ne _ _ hk⟩) ?_ ?_ ?_ ?_
  · rintro hR k rfl
    simpa using hrep hR
  · rintro k b rfl h
    simp only [put_same] at h
    exact .inl (hown b h)
  · rintro i j b rfl rfl _ _
    rfl
  · rintro k n s' hk rfl ha
    simp only [put_same]
    obtain ⟨h1, h2⟩ := hfresh k n ha
    exact ⟨(fun t xs' h => absurd h (h1 t xs')), (fun t x' h => absurd h (h2 t x'))⟩

theorem blk_own (m n : Nat) {t t' : Ty} (xs : List t.den) (ys : List t'.den) (v : Value) : ownBlk (.own m t xs) v = ownBlk (.own n t' ys) v := by
  cases v <;> try rfl
  rename_i A _ _
  cases A <;> rfl
theorem blk_obj (m n : Nat) {t t' : Ty} (x : t.den) (y : t'.den) (v : Value) : ownBlk (.obj m t x) v = ownBlk (.obj n t' y) v := by
  cases v <;> try rfl
  rename_i A
  cases A <;> rfl

theorem fresh_own (hf : Fresh m st) {d : Nat} {t : Ty} {xs : List t.den} : ∀ k n, aliasOf (st k) = some (n, d) → (∀ t' xs', Slot.own m t xs ≠ .own n t' xs') ∧ (∀ t' x', Slot.own m t xs ≠ .obj n t' x') := by
  intro k n h
  have := hf k n d h
  exact ⟨(fun t' xs' e => by injection e with e1; exact this e1.symm), (fun t' x' e => by cases e)⟩
theorem fresh_obj (hf : Fresh m st) {d : Nat} {t : Ty} {x : t.den} : ∀ k n, aliasOf (st k) = some (n, d) → (∀ t' xs', Slot.obj m t x ≠ .own n t' xs') ∧ (∀ t' x', Slot.obj m t x ≠ .obj n t' x') := by
  intro k n h
  have := hf k n d h
  exact ⟨(fun t' xs' e => by cases e), (fun t' x' e => by injection e with e1; exact this e1.symm)⟩

theorem Fresh.app {u : Ups} (hu : ∀ p ∈ u, aliasOf p.2 = none) : ∀ {st : St}, Fresh m st → Fresh m (app u st) := by
  induction u with
  | nil => exact fun h => h
  | cons p u ih =>
    intro st h
    refine ih (fun q hq => hu q (by simp [hq])) ?_
    intro k n s hk
    simp only at hk
    by_cases e : k = p.1
    · subst e
      rw [put_same, hu p (by simp)] at hk
      cases hk
    · rw [put_ne _ _ e] at hk
      exact h k n s hk

theorem frz_alias {l : Lk} {want : Option Ty} {d : Dv} {u : Ups} (hf : frz l want = some (d, u)) : ∀ p ∈ u, aliasOf p.2 = none ∧ owning p.2 = false := by
  unfold frz at hf
  split at hf
  · simp only [Option.some.injEq, Prod.mk.injEq] at hf
    obtain ⟨_, rfl⟩ := hf
    simp
  · split at hf
    · simp only [Option.some.injEq, Prod.mk.injEq] at hf
      obtain ⟨_, rfl⟩ := hf
      simp
    · cases hf
  · split at hf
    · simp only [Option.some.injEq, Prod.mk.injEq] at hf
      obtain ⟨_, rfl⟩ := hf
      simp [aliasOf, owning]
    · cases hf
  · split at hf
    · simp only [Option.some.injEq, Prod.mk.injEq] at hf
      obtain ⟨_, rfl⟩ := hf
      simp [aliasOf, owning]
    · cases hf
  · cases hf

/-! ### move, assign, pick -/
theorem did_move (hg : Good B R0 L st V w) (hl : Link N V a) {x : Operand} {l : Lk} (ho : o.op = .move x ∨ o.op = .nilCheck x ∧ (∃ ad, a.eval x = .pointer (some ad))) (hx : look st x = some l) (hi : into o.dst l.s = some ups) :
    Did P B R0 L st V w a o ups := by
  have h := look_ok hg hl hx
  refine did_into hg (v := a.eval x) ?_ h.rep h.low hi
  rcases ho with ho | ⟨ho, ad, had⟩
  · simp [execOp, ho]
  · simp [execOp, ho, had]

theorem did_iface (ok : TabOK P tab) (hg : Good B R0 L st V w) (hl : Link N V a) {T : TypeId} {x : Operand} {l : Lk} {t : Ty} {v : t.den} (ho : o.op = .makeInterface T x) (hx : look st x = some l) (hv : l.s = .val t v) (ht : ty tab T = some t)
    (hi : into o.dst (.ifc T t v) = some ups) : Did P B R0 L st V w a o ups := by
  have h := (look_ok hg hl hx).rep
  rw [hv] at h
  refine did_into hg (s := .ifc T t v) (v := .iface T (a.eval x)) ?_ ⟨_, rfl, h⟩ rfl hi
  obtain ⟨d, hd, hni⟩ := tab_plain ok ht
  have : (Instr.makeInterface T (a.eval x)).run P w = .ok (.iface T (a.eval x)) w := by
    unfold Instr.makeInterface
    rw [Sem.run_bind, run_underlying hd]
    simp only [Result.andThen_ok]
    cases d <;> first
      | exact absurd rfl (hni _)
      | simp
  simp [execOp, ho, this]

theorem did_pick (hg : Good B R0 L st V w) {q : Bool} {c x y : Operand} {s1 s2 : Slot} (ho : o.op = .pick c x y) (hc : a.eval c = .bool q)
    (h1 : SlotRep w (RO B R0 st V) st V s1 (a.eval x)) (l1 : owning s1 = false) (h2 : SlotRep w (RO B R0 st V) st V s2 (a.eval y)) (l2 : owning s2 = false) (hi : into o.dst (if q then s1 else s2) = some ups) :
    Did P B R0 L st V w a o ups := by
  cases q with
  | true => exact did_into hg (v := a.eval x) (by simp [execOp, ho, hc, asBool]) (by simpa using h1) (by simpa using l1) hi
  | false => exact did_into hg (v := a.eval y) (by simp [execOp, ho, hc, asBool]) (by simpa using h2) (by simpa using l2) hi

/-- A row or an object of the call's own changes its slot. -/
theorem Good.shift (hg : Good B R0 L st V w) {d k : Nat} {s s' : Slot} (hk : k ≠ d) (v : Value) (hv : v = V k) (hs : owning (st k) = true) (hgh : isObj (st k) = true → k < ghost) (hb : ∀ v, ownBlk s v = ownBlk (st k) v) (ho : isObj s = isObj (st k))
    (hrep : ∀ R, SlotRep w R st V (st k) (V k) → ∀ st' V', SlotRep w R st' V' s (V k)) (hs' : owning s' = false) (hrep' : SlotRep w (fun _ => True) (Tm.put (Tm.put st k s') d s) (Tm.put V d v) s' (V k))
    (hrep'' : ∀ R, SlotRep w (fun _ => True) (Tm.put (Tm.put st k s') d s) (Tm.put V d v) s' (V k) → SlotRep w R (Tm.put (Tm.put st k s') d s) (Tm.put V d v) s' (V k))
    (hfresh : ∀ k n, aliasOf (st k) = some (n, d) → (∀ t xs, s ≠ .own n t xs) ∧ (∀ t x, s ≠ .obj n t x)) :
    Good B R0 L (Tm.put (Tm.put st k s') d s) (Tm.put V d v) w := by
  subst hv
  have e1 : (Tm.put (Tm.put st k s') d s) k = s' := by rw [put_ne _ _ hk, put_same]
  have e2 : (Tm.put V d (V k)) k = V k := put_ne _ _ hk
  refine hg.change (fun j => j = d ∨ j = k) rfl rfl rfl (Nat.le_refl _) (fun _ _ _ => rfl) (fun j hj => ?_) ?_ ?_ ?_ ?_
  · simp only [not_or] at hj
    rw [put_ne _ _ hj.1, put_ne _ _ hj.2, put_ne _ _ hj.1]
    exact ⟨rfl, rfl⟩
  · rintro hR j (rfl | rfl)
    · simp only [put_same]
      exact hrep _ ((hg.rep k).move (Nat.le_refl _) hR (fun _ _ _ => rfl) (fun _ _ => rfl) (fun n s'' ha => by
        exfalso
        revert ha hs
        cases st k <;> simp [owning, aliasOf])) _ _
    · rw [e1, e2]
      exact hrep'' _ hrep'
  · rintro j b (rfl | rfl) h
    · simp only [put_same] at h ⊢
      exact .inr ⟨k, .inr rfl, by rw [← hb]; exact h, ho.symm, fun h1 h2 => by have := hgh h1; omega⟩
    · rw [e1, e2, ownBlk_none hs'] at h
      cases h
  · rintro i j b hi hj h1 h2
    rcases hi with rfl | rfl <;> rcases hj with rfl | rfl
    · rfl
    · rw [e1, e2, ownBlk_none hs'] at h2; cases h2
    · rw [e1, e2, ownBlk_none hs'] at h1; cases h1
    · rfl
  · rintro j n s'' hj hs'' ha
    rcases hs'' with rfl | rfl
    · simp only [put_same]
      obtain ⟨h1, h2⟩ := hfresh j n ha
      exact ⟨(fun t xs' h => absurd h (h1 t xs')), (fun t x' h => absurd h (h2 t x'))⟩
    · rw [e1]
      exact ⟨(fun t xs' h => by subst h; simp [owning] at hs'), (fun t x' h => by subst h; simp [owning] at hs')⟩

theorem did_assign (hg : Good B R0 L st V w) (hl : Link N V a) (hf : Fresh m st) {x : Operand} {l : Lk} (ho : o.op = .assign x) (hx : look st x = some l) (hi : stepAssign o.dst m l = some ups) :
    Did P B R0 L st V w a o ups := by
  have h := look_ok hg hl hx
  have hrun : (execOp a.eval o).run P w = .ok (.value (a.eval x)) w := by simp [execOp, ho]
  unfold stepAssign at hi
  split at hi
  · rename_i hd
    injection hi with hi
    subst hi
    exact ⟨_, w, .inl hrun, by simpa [putO, hd] using hg⟩
  · rename_i d hd
    obtain ⟨s, c⟩ := l
    have hrep := h.rep
    have hown := h.own
    simp only at hi hrep hown
    split at hi
    · -- the whole of a row
      rename_i n k n' t xs
      split at hi
      · rename_i hn
        subst hn
        have hk := hown n k rfl
        have hv := hrep _ _ hk.symm
        split at hi
        · rename_i hkd
          subst hkd
          injection hi with hi
          subst hi
          refine ⟨_, w, .inl hrun, ?_⟩
          simp only [putO, hd, app_nil, hv, put_eta]
          exact hg
        · rename_i hkd
          injection hi with hi
          subst hi
          refine ⟨_, w, .inl hrun, ?_⟩
          simp only [putO, hd, app_cons, app_nil]
          refine hg.shift hkd _ hv (by rw [← hk]; rfl) (fun h => by rw [← hk] at h; cases h) (fun v => by rw [← hk]; exact blk_own _ _ _ _ _) (by rw [← hk]; rfl) (fun R hr st' V' => by rw [← hk] at hr; exact hr) rfl ?_ (fun R hr => hr) (fresh_own hf)
          intro t' xs' h'
          rw [put_same, hv]
      · cases hi
    · -- a part of a row
      rename_i n k lo len n' t xs
      split at hi
      · rename_i hn
        subst hn
        have hk := hown n k rfl
        obtain ⟨h0, A, L', c, A', hV, hv, h8⟩ := hrep _ _ hk.symm
        split at hi
        · rename_i hkd
          subst hkd
          injection hi with hi
          subst hi
          refine ⟨_, w, .inl hrun, ?_⟩
          simp only [putO, hd, app_cons, app_nil]
          have hkr := hg.rep k
          rw [← hk] at hkr
          obtain ⟨A2, c2, cs, hV2, h1, h2, h3, h4⟩ := hkr
          rw [hV2] at hV
          injection hV with q1 q2 q3
          subst q1 q2 q3
          have hlen : ((xs.drop lo).take len).length = len := by simp; omega
          refine hg.change (fun j => j = k) rfl rfl rfl (Nat.le_refl _) (fun _ _ _ => rfl) (fun j hj => ⟨put_ne _ _ hj, put_ne _ _ hj⟩) ?_ ?_ ?_ ?_
          · rintro hR j rfl
            simp only [put_same]
            have hpart := ((h3.drop (fun x c hx => rep_len t hx) lo).take (fun x c hx => rep_len t hx) len).imp (fun x c _ hx => rep_mono (Nat.le_refl _) hR (fun _ _ _ => rfl) t hx)
            rcases h4 with ⟨rfl, rfl⟩ | ⟨ad, rfl, hm⟩
            · rcases h8 with ⟨_, h8⟩ | ⟨ad, j', h8, _⟩
              · exact ⟨A', 0 - lo, _, by rw [hlen]; exact hv, by rw [hlen]; omega, by omega, hpart, .inl ⟨h8, by omega⟩⟩
              · cases h8
            · rcases h8 with ⟨h8, _⟩ | ⟨ad2, j', h8, hA', hjc, hj⟩
              · cases h8
              · injection h8 with h8
                subst h8
                refine ⟨A', c2 - lo, _, by rw [hlen]; exact hv, by rw [hlen]; omega, by omega, hpart, .inr ⟨_, hA', ?_⟩⟩
                rcases Nat.lt_or_ge lo c2 with hlt | hge
                · rw [hj hlt]
                  have := (hm.part (lo * t.sz) (Nat.mul_le_mul_right _ (by omega))).cut (len * t.sz)
                  rwa [← Nat.sub_mul] at this
                · have h0 : c2 - lo = 0 := by omega
                  have hl0 : len = 0 := by omega
                  rw [h0, hl0, Nat.zero_mul]
                  have := (hm.part j' hjc).cut 0
                  obtain ⟨r1, row, e, fz, r2, r3, r4, r5, r6⟩ := this.out
                  exact ⟨r1, row, e, fz, r2, by omega, r4, by simp, fun q v hv => by simp at hv⟩
          · rintro j b rfl h'
            simp only [put_same] at h' ⊢
            refine .inr ⟨j, rfl, ?_, by rw [← hk]; rfl, fun h => by rw [← hk] at h; cases h⟩
            rw [hv] at h'
            rcases h8 with ⟨_, h8⟩ | ⟨ad2, j', h8, hA', _⟩
            · rw [h8] at h'; cases h'
            · rw [hA'] at h'
              rw [← hk, hV2, h8]
              simpa [ownBlk, add_block] using h'
          · rintro i j b rfl rfl _ _
            rfl
          · rintro j n'' s'' hj rfl ha
            simp only [put_same]
            obtain ⟨q1, q2⟩ := fresh_own (t := t) (xs := (xs.drop lo).take len) hf j n'' ha
            exact ⟨(fun t' xs' h' => absurd h' (q1 t' xs')), (fun t' x' h' => absurd h' (q2 t' x'))⟩
        · rename_i hkd
          injection hi with hi
          subst hi
          refine ⟨_, w, .inl hrun, ?_⟩
          simp only [putO, hd, app_cons, app_nil]
          exact hg.put d _ _ rfl rfl rfl rfl rfl hrep (fun n'' e => by simp only [aliasOf, Option.some.injEq, Prod.mk.injEq] at e; exact hkd e.2)
      · cases hi
    · -- an object
      rename_i n k n' t xs
      split at hi
      · rename_i hn
        subst hn
        have hk := hown n k rfl
        obtain ⟨ad, hV, hv⟩ := hrep.1 _ _ hk.symm
        have h00 : offs t [] = 0 := by cases t <;> rfl
        rw [h00, add_zero, ← hV] at hv
        split at hi
        · rename_i hkd
          subst hkd
          injection hi with hi
          subst hi
          refine ⟨_, w, .inl hrun, ?_⟩
          simp only [putO, hd, app_nil, hv, put_eta]
          exact hg
        · rename_i hkd
          split at hi
          · injection hi with hi
            subst hi
            refine ⟨_, w, .inl hrun, ?_⟩
            simp only [putO, hd, app_cons, app_nil]
            exact hg.put d _ _ rfl rfl rfl rfl rfl hrep (fun n'' e => by simp only [aliasOf, Option.some.injEq, Prod.mk.injEq] at e; exact hkd e.2)
          injection hi with hi
          subst hi
          refine ⟨_, w, .inl hrun, ?_⟩
          simp only [putO, hd, app_cons, app_nil]
          refine hg.shift hkd _ hv (by rw [← hk]; rfl) (fun _ => by omega) (fun v => by rw [← hk]; exact blk_obj _ _ _ _ _) (by rw [← hk]; rfl) (fun R hr st' V' => by rw [← hk] at hr; exact hr) rfl ?_ (fun R hr => hr) (fresh_obj hf)
          refine ⟨fun t' x' h' => ⟨ad, ?_, ?_⟩, fun t' xs' h' => ?_⟩
          · rw [put_same, hv, hV]
          · have h01 : offs t' [] = 0 := by cases t' <;> rfl
            rw [hV, h01, add_zero]
          · rw [put_same] at h'; cases h'
      · cases hi
    · exact did_into hg hrun hrep h.low (by rw [hd]; exact hi)

end
end Go.Tm

/- What an operation does: new variables, loads and stores, fields and elements. -/
set_option linter.unusedVariables false
set_option linter.unusedSimpArgs false
namespace Go.Tm

theorem get_arr {n m : Nat} {t : Ty} (xs : List t.den) (q : Way) (p : List Way) : get (.arr n t) xs (q :: p) = get (.arr m t) xs (q :: p) := by
  cases q with
  | fld j => cases j <;> rfl
  | idx i => rfl
theorem offs_arr {n m : Nat} {t : Ty} (q : Way) (p : List Way) : offs (.arr n t) (q :: p) = offs (.arr m t) (q :: p) := by
  cases q with
  | fld j => cases j <;> rfl
  | idx i => rfl
theorem upd_arr {n m : Nat} {t : Ty} (xs : List t.den) (q : Way) (p : List Way) (u : Ty) (y : u.den) : (upd (.arr n t) xs (q :: p) u y : Option (List t.den)) = upd (.arr m t) xs (q :: p) u y := by
  cases q with
  | fld j => cases j <;> rfl
  | idx i => rfl

theorem upd_len {t : Ty} {xs : List t.den} {q : Way} {p : List Way} {u : Ty} {y : u.den} {xs' : List t.den} (h : upd (.arr 0 t) xs (q :: p) u y = some xs') : xs'.length = xs.length := by
  cases q with
  | fld j => simp [upd] at h
  | idx i =>
    simp only [upd] at h
    split at h
    · simp only [Option.map_eq_some_iff] at h
      obtain ⟨z, _, rfl⟩ := h
      simp
    · cases h

section
variable {P : Program} {tab : Tab} {B : World} {R0 L : Nat → Prop} {st : St} {V : Nat → Value} {w : World} {N : Env} {a : Act} {o : Oper} {ups : Ups} {m : Nat}

/-- What an address leads to, and where it lies. -/
theorem aim_ok (hg : Good B R0 L st V w) {l : Lk} {v : Value} (h : LkOK (RO B R0 st V) st V w l v) {d : Dv} (ha : aim l = some d) :
    ∃ ad cs, v = .pointer (some ad) ∧ rep w (RO B R0 st V) d.1 d.2 cs ∧ lies w ad cs := by
  obtain ⟨s, c⟩ := l
  have hr := h.rep
  have ho := h.own
  simp only at hr ho
  unfold aim at ha
  simp only at ha
  split at ha
  · injection ha with ha
    subst ha
    obtain ⟨ad, cs, rfl, _, _, h1, h2⟩ := hr
    exact ⟨ad, cs, rfl, h1, h2⟩
  · rename_i n k p n' t x
    split at ha
    · rename_i hn
      subst hn
      have hk := ho n k rfl
      obtain ⟨ad, hV, hv⟩ := hr.1 _ _ hk.symm
      have hkr := hg.rep k
      rw [← hk] at hkr
      obtain ⟨ad2, cs, hV2, h1, hm⟩ := hkr
      rw [hV] at hV2
      injection hV2 with hV2
      injection hV2 with hV2
      subst hV2
      obtain ⟨k1, k2⟩ := rep_get t x cs p d.1 d.2 h1 ha
      exact ⟨_, _, hv, k1, lies_mid hm.lies _ _⟩
    · cases ha
  · rename_i n k q p n' t xs
    split at ha
    · rename_i hn
      subst hn
      have hk := ho n k rfl
      obtain ⟨ad, L', c', hV, hv⟩ := hr.2 _ _ hk.symm
      have hkr := hg.rep k
      rw [← hk] at hkr
      obtain ⟨A, c2, cs, hV2, h1, h2, h3, h4⟩ := hkr
      rw [hV] at hV2
      injection hV2 with e1 e2 e3
      subst e1 e2 e3
      rcases h4 with ⟨h4, _⟩ | ⟨ad2, h4, hm⟩
      · cases h4
      · injection h4 with h4
        subst h4
        rw [get_arr (m := xs.length)] at ha
        obtain ⟨k1, k2⟩ := rep_get (.arr xs.length t) xs cs (q :: p) d.1 d.2 ⟨rfl, h3⟩ ha
        rw [offs_arr (m := xs.length)] at hv
        exact ⟨_, _, hv, k1, lies_mid hm.lies _ _⟩
    · cases ha
  · cases ha

theorem did_load (ok : TabOK P tab) (hg : Good B R0 L st V w) (hl : Link N V a) {t : TypeId} {x : Operand} {l : Lk} {d : Dv} (ho : o.op = .load t x) (hx : look st x = some l) (ha : aim l = some d)
    (ht : ty tab t = some d.1) (hi : into o.dst (.val d.1 d.2) = some ups) : Did P B R0 L st V w a o ups := by
  obtain ⟨ad, cs, hv, h1, h2⟩ := aim_ok hg (look_ok hg hl hx) ha
  refine did_into hg (v := mkv d.1 cs) (s := .val d.1 d.2) ?_ ⟨cs, h1, rfl⟩ rfl hi
  simp [execOp, ho, Instr.loadAt, hv, Instr.sureAddr, tm_loadVar ok ht h2 (rep_len _ h1)]

theorem did_alloc (ok : TabOK P tab) (hg : Good B R0 L st V w) (hf : Fresh m st) {e : TypeId} {u : Ty} {d : Nat} (ho : o.op = .alloc e) (hd : o.dst = some d) (he : ty tab e = some u) :
    Did P B R0 L st V w a o [(d, .obj m u u.dflt)] := by
  have hz := rep_zero w (fun _ => True) u
  have hc := mkv_cells hz
  refine ⟨.pointer (some ⟨w.heap.size, 0, none⟩), w.alloc (.cells (mkv u u.zeroV).cells e), .inl ?_, ?_⟩
  · simp [execOp, ho, Instr.alloc, tm_zero ok he, newVar, newRow]
  · simp only [putO, hd, app_cons, app_nil]
    refine hg.fresh d _ _ (but_alloc w _ none) (fun hR => ?_) (fun b hb => ?_) (fresh_obj hf)
    · refine ⟨_, u.zeroV, rfl, rep_zero _ _ u, ?_⟩
      rw [hc]
      have hlen := rep_len _ hz
      exact mem_new w _ e _ _ (by simp [hlen]) (by simp [hlen]) (fun j v hv => by simpa using hv)
    · simp only [ownBlk, Option.some.injEq] at hb
      omega

theorem did_box (hg : Good B R0 L st V w) (hl : Link N V a) (hf : Fresh m st) {e : TypeId} {x : Operand} {l : Lk} {want : Option Ty} {y : Dv} {u : Ups} {d : Nat} (ho : o.op = .box e x) (hd : o.dst = some d)
    (hx : look st x = some l) (hz : frz l want = some (y, u)) : Did P B R0 L st V w a o (u ++ [(d, .obj m y.1 y.2)]) := by
  have h := look_ok hg hl hx
  obtain ⟨hg', ⟨cs, h1, hv⟩, _⟩ := frz_ok hg h hz
  have hc := mkv_cells h1
  have hf' : Fresh m (app u st) := hf.app (fun p hp => (frz_alias hz p hp).1)
  refine ⟨.pointer (some ⟨w.heap.size, 0, none⟩), w.alloc (.cells (mkv y.1 cs).cells e), .inl ?_, ?_⟩
  · simp [execOp, ho, Instr.box, hv, newVar, newRow]
  · simp only [putO, hd, app_append, app_cons, app_nil]
    refine hg'.fresh d _ _ (but_alloc w _ none) (fun hR => ?_) (fun b hb => ?_) (fresh_obj hf')
    · have hlen := rep_len _ h1
      refine ⟨_, cs, rfl, rep_mono (by simp) hR (fun b hb _ => Go.RowKit.Below.heap_alloc w _ b hb) _ h1, ?_⟩
      rw [hc]
      exact mem_new w _ e _ _ (by simp [hlen]) (by simp [hlen]) (fun j v hv => by simpa using hv)
    · simp only [ownBlk, Option.some.injEq] at hb
      omega

/-- The content of a slot is written; its block's other cells stay. -/
theorem Good.write (hg : Good B R0 L st V w) {k : Nat} {s : Slot} {w' : World} {ad : Addr} (hb : But w (some ad) w') (hk : ownBlk (st k) (V k) = some ad.block) (hso : owning s = true) (ho : isObj s = isObj (st k))
    (hbl : ∀ v, ownBlk s v = ownBlk (st k) v) (hrep : (∀ b, b < w.heap.size → RO B R0 st V b → RO B R0 (Tm.put st k s) V b) → SlotRep w' (RO B R0 (Tm.put st k s) V) (Tm.put st k s) V s (V k))
    (hal : (∀ n t xs', s = .own n t xs' → ∃ xs, st k = .own n t xs ∧ xs.length = xs'.length) ∧ (∀ n t x', s = .obj n t x' → ∃ x, st k = .obj n t x)) : Good B R0 L (Tm.put st k s) V w' := by
  refine hg.change (fun j => j = k) hb.os hb.tape hb.output hb.size (fun b hlt h => hb.block b hlt (fun ad' e => ?_)) (fun j hj => ⟨put_ne _ _ hj, rfl⟩) ?_ ?_ ?_ ?_
  · injection e with e
    subst e
    intro e
    exact h k rfl (e ▸ hk)
  · rintro hR j rfl
    simp only [put_same]
    exact hrep hR
  · rintro j b rfl h
    simp only [put_same] at h ⊢
    exact .inr ⟨j, rfl, by rw [← hbl]; exact h, ho.symm, fun _ h => h⟩
  · rintro i j b rfl rfl _ _
    rfl
  · rintro j n s' hj rfl ha
    simp only [put_same]
    refine ⟨fun t xs' h => ⟨?_, hal.1 n t xs' h⟩, fun t x' h => ⟨?_, hal.2 n t x' h⟩⟩ <;> trivial

theorem did_store (ok : TabOK P tab) (hg : Good B R0 L st V w) (hl : Link N V a) {t : TypeId} {x y : Operand} {lx ly : Lk} (ho : o.op = .store t x y) (hd : o.dst = none)
    (hx : look st x = some lx) (hy : look st y = some ly) (hi : stepStore tab t lx ly = some ups) : Did P B R0 L st V w a o ups := by
  have h1 := look_ok hg hl hx
  have h2 := look_ok hg hl hy
  unfold stepStore at hi
  split at hi
  · rename_i d u hz
    split at hi
    · rename_i ht
      obtain ⟨hg', ⟨cv, hv1, hv2⟩, hu⟩ := frz_ok hg h2 hz
      have hcv := mkv_cells hv1
      have hlv := rep_len _ hv1
      have hone := rep_cells _ hv1
      obtain ⟨s, c⟩ := lx
      have hr := h1.rep
      have hown := h1.own
      simp only at hi hr hown
      split at hi
      · -- an object
        rename_i n k p n' t' z
        split at hi
        · rename_i hn
          subst hn
          split at hi
          · rename_i z' hup
            injection hi with hi
            subst hi
            have hk := hown n k rfl
            have hke : app u st k = .obj n t' z := by
              rcases hu with rfl | ⟨s', n2, t2, xs2, rfl, hs'⟩
              · exact hk.symm
              · have : k ≠ s' := fun e => by subst e; rw [← hk] at hs'; cases hs'
                exact (put_ne _ _ this).trans hk.symm
            obtain ⟨ad, hV, hva⟩ := hr.1 _ _ hk.symm
            have hkr := hg'.rep k
            rw [hke] at hkr
            obtain ⟨ad2, cs, hV2, q1, hm⟩ := hkr
            rw [hV] at hV2
            injection hV2 with hV2
            injection hV2 with hV2
            subst hV2
            obtain ⟨q2, q3⟩ := rep_upd t' z cs p d.1 d.2 z' cv q1 hup hv1
            have hlc := rep_len _ q1
            obtain ⟨w', r1, r2, r3⟩ := tm_storeVar ok ht hm (offs t' p) (v := a.eval y) (new := cv) (by omega) (by rw [hv2, hcv]) hlv hone
            refine ⟨undef, w', .inr ⟨?_, hd⟩, ?_⟩
            · simp [execOp, ho, Instr.storeAt, hva, Instr.sureAddr, r1]
            · have hups : app ((k, Slot.obj n t' z') :: u) st = Tm.put (app u st) k (.obj n t' z') := by
                rcases hu with rfl | ⟨s', n2, t2, xs2, rfl, hs'⟩
                · rfl
                · have : s' ≠ k := fun e => by subst e; rw [← hk] at hs'; cases hs'
                  simp only [app_cons, app_nil]
                  exact put_comm _ _ _ (Ne.symm this)
              rw [hups]
              simp only [putO, hd]
              refine hg'.write (ad := ad) r3 (by rw [hke, hV]; rfl) rfl (by rw [hke]; rfl) (fun v => by rw [hke]; exact blk_obj _ _ _ _ _) (fun hR => ?_) ⟨(fun _ _ _ e => by cases e), fun n2 t2 x2 e => ?_⟩
              · refine ⟨ad, _, hV, rep_mono r3.size hR (fun b hb hRb => r3.block b hb (fun ad' e e2 => ?_)) _ q2, ?_⟩
                · injection e with e
                  subst e
                  subst e2
                  exact hRb.2 k (by rw [hke, hV]; rfl)
                · have : ovr cs (offs t' p) cv = cs.take (offs t' p) ++ cv ++ cs.drop (offs t' p + d.1.sz) := by rw [ovr, hlv]
                  rwa [this] at r2
              · injection e with e1 e2
                subst e1 e2
                exact ⟨z, hke⟩
          · cases hi
        · cases hi
      · -- an element of a row
        rename_i n k q p n' t' xs
        split at hi
        · rename_i hn
          obtain ⟨hn, hne⟩ := hn
          subst hn
          split at hi
          · rename_i xs' hup
            injection hi with hi
            subst hi
            have hk := hown n k rfl
            have hke : app u st k = .own n t' xs := by
              rcases hu with rfl | ⟨s', n2, t2, xs2, rfl, hs'⟩
              · exact hk.symm
              · have : k ≠ s' := by simpa using Ne.symm (by simpa using hne)
                exact (put_ne _ _ this).trans hk.symm
            obtain ⟨ad, L', c', hV, hva⟩ := hr.2 _ _ hk.symm
            have hkr := hg'.rep k
            rw [hke] at hkr
            obtain ⟨A, c2, cs, hV2, g1, g2, g3, g4⟩ := hkr
            rw [hV] at hV2
            injection hV2 with e1 e2 e3
            subst e1 e2 e3
            rcases g4 with ⟨g4, _⟩ | ⟨ad2, g4, hm⟩
            · cases g4
            injection g4 with g4
            subst g4
            have hxl := upd_len hup
            rw [upd_arr (m := xs.length)] at hup
            rw [offs_arr (m := xs.length)] at hva
            obtain ⟨q2, q3⟩ := rep_upd (.arr xs.length t') xs cs (q :: p) d.1 d.2 xs' cv ⟨rfl, g3⟩ hup hv1
            have hlc : cs.length = xs.length * t'.sz := g3.length (fun x c hx => rep_len t' hx)
            simp only [Ty.sz] at q3
            obtain ⟨w', r1, r2, r3⟩ := tm_storeVar ok ht hm (offs (.arr xs.length t') (q :: p)) (v := a.eval y) (new := cv) (by omega) (by rw [hv2, hcv]) hlv hone
            refine ⟨undef, w', .inr ⟨?_, hd⟩, ?_⟩
            · simp [execOp, ho, Instr.storeAt, hva, Instr.sureAddr, r1]
            · have hups : app ((k, Slot.own n t' xs') :: u) st = Tm.put (app u st) k (.own n t' xs') := by
                rcases hu with rfl | ⟨s', n2, t2, xs2, rfl, hs'⟩
                · rfl
                · have : s' ≠ k := by simpa using hne
                  simp only [app_cons, app_nil]
                  exact put_comm _ _ _ (Ne.symm this)
              rw [hups]
              simp only [putO, hd]
              refine hg'.write (ad := ad) r3 (by rw [hke, hV]; rfl) rfl (by rw [hke]; rfl) (fun v => by rw [hke]; exact blk_own _ _ _ _ _) (fun hR => ?_) ⟨fun n2 t2 x2 e => ?_, (fun _ _ _ e => by cases e)⟩
              · refine ⟨some ad, c', _, by rw [hV, hxl], by rw [hxl]; exact g1, g2, (q2.2.imp (fun x c _ hx => rep_mono r3.size hR (fun b hb hRb => r3.block b hb (fun ad' e e2 => ?_)) _ hx)), .inr ⟨ad, rfl, ?_⟩⟩
                · injection e with e
                  subst e
                  subst e2
                  exact hRb.2 k (by rw [hke, hV]; rfl)
                · have : ovr cs (offs (.arr xs.length t') (q :: p)) cv = cs.take (offs (.arr xs.length t') (q :: p)) ++ cv ++ cs.drop (offs (.arr xs.length t') (q :: p) + d.1.sz) := by rw [ovr, hlv]
                  rwa [this] at r2
              · injection e with e1 e2 e3
                subst e1 e2
                cases e3
                exact ⟨xs, hke, hxl.symm⟩
          · cases hi
        · cases hi
      · cases hi
    · cases hi
  · cases hi

end
end Go.Tm

/- What an operation does: fields, elements, cuts. -/
set_option linter.unusedVariables false
set_option linter.unusedSimpArgs false
namespace Go.Tm

theorem offs_append : ∀ (t : Ty) (x : t.den) (p q : List Way) (u : Ty) (y : u.den), get t x p = some ⟨u, y⟩ → offs t (p ++ q) = offs t p + offs u q := by
  intro t
  have base : ∀ (t : Ty) (x : t.den) (q : List Way) (u : Ty) (y : u.den), get t x [] = some ⟨u, y⟩ → offs t ([] ++ q) = offs t [] + offs u q := by
    intro t x q u y h
    have h0 : offs t [] = 0 := by cases t <;> rfl
    have : get t x [] = some ⟨t, x⟩ := by cases t <;> rfl
    rw [this] at h
    injection h with h
    cases h
    rw [h0]; simp
  induction t with
  | prod a b iha ihb =>
    intro x p q u y h
    cases p with
    | nil => exact base _ _ _ _ _ h
    | cons s p =>
      cases s with
      | idx i => simp [get] at h
      | fld j =>
        cases j with
        | zero => simp only [get] at h; simpa only [offs, List.cons_append] using iha _ _ _ _ _ h
        | succ j =>
          simp only [get] at h
          have := ihb _ _ q _ _ h
          simp only [List.cons_append] at this
          simp only [offs, List.cons_append, this]
          omega
  | arr n t ih =>
    intro x p q u y h
    cases p with
    | nil => exact base _ _ _ _ _ h
    | cons s p =>
      cases s with
      | fld j => simp [get] at h
      | idx i =>
        simp only [get] at h
        split at h
        · rename_i z hz
          have := ih _ _ q _ _ h
          simp only [offs, List.cons_append, this]
          omega
        · cases h
  | int k => intro x p q u y h; cases p with | nil => exact base _ _ _ _ _ h | cons s p => cases s <;> simp [get] at h
  | bool => intro x p q u y h; cases p with | nil => exact base _ _ _ _ _ h | cons s p => cases s <;> simp [get] at h
  | str => intro x p q u y h; cases p with | nil => exact base _ _ _ _ _ h | cons s p => cases s <;> simp [get] at h
  | unit => intro x p q u y h; cases p with | nil => exact base _ _ _ _ _ h | cons s p => cases s <;> simp [get] at h
  | slice t _ => intro x p q u y h; cases p with | nil => exact base _ _ _ _ _ h | cons s p => cases s <;> simp [get] at h

theorem get_append : ∀ (t : Ty) (x : t.den) (p q : List Way) (u : Ty) (y : u.den), get t x p = some ⟨u, y⟩ → get t x (p ++ q) = get u y q := by
  intro t
  have base : ∀ (t : Ty) (x : t.den) (q : List Way) (u : Ty) (y : u.den), get t x [] = some ⟨u, y⟩ → get t x ([] ++ q) = get u y q := by
    intro t x q u y h
    have : get t x [] = some ⟨t, x⟩ := by cases t <;> rfl
    rw [this] at h
    injection h with h
    cases h
    rfl
  induction t with
  | prod a b iha ihb =>
    intro x p q u y h
    cases p with
    | nil => exact base _ _ _ _ _ h
    | cons s p =>
      cases s with
      | idx i => simp [get] at h
      | fld j =>
        cases j with
        | zero => simp only [get] at h; simpa only [get, List.cons_append] using iha _ _ _ _ _ h
        | succ j => simp only [get] at h; simpa only [get, List.cons_append] using ihb _ _ q _ _ h
  | arr n t ih =>
    intro x p q u y h
    cases p with
    | nil => exact base _ _ _ _ _ h
    | cons s p =>
      cases s with
      | fld j => simp [get] at h
      | idx i =>
        simp only [get] at h
        split at h
        · rename_i z hz
          simp only [List.cons_append, get, hz]
          exact ih _ _ q _ _ h
        · cases h
  | int k => intro x p q u y h; cases p with | nil => exact base _ _ _ _ _ h | cons s p => cases s <;> simp [get] at h
  | bool => intro x p q u y h; cases p with | nil => exact base _ _ _ _ _ h | cons s p => cases s <;> simp [get] at h
  | str => intro x p q u y h; cases p with | nil => exact base _ _ _ _ _ h | cons s p => cases s <;> simp [get] at h
  | unit => intro x p q u y h; cases p with | nil => exact base _ _ _ _ _ h | cons s p => cases s <;> simp [get] at h
  | slice t _ => intro x p q u y h; cases p with | nil => exact base _ _ _ _ _ h | cons s p => cases s <;> simp [get] at h

theorem fields_at {tab : Tab} : ∀ (u : Ty) (fs : List Field) (v : u.den) (j off : Nat) (y : Dv), fieldsOK tab fs u off = true → get u v [.fld j] = some y →
    ∃ f, fs[j]? = some f ∧ f.offset = off + offs u [.fld j] ∧ ty tab f.type = some y.1 ∧ 0 < y.1.sz := by
  intro u
  induction u with
  | prod a b iha ihb =>
    intro fs v j off y hf hg
    cases fs with
    | nil => simp [fieldsOK] at hf
    | cons f fs =>
      simp only [fieldsOK, Bool.and_eq_true, beq_iff_eq, bne_iff_ne, decide_eq_true_eq] at hf
      obtain ⟨⟨⟨⟨ho, hn⟩, ht⟩, hz⟩, hr⟩ := hf
      cases j with
      | zero =>
        simp only [get] at hg
        injection hg with hg
        subst hg
        have h0 : offs a [] = 0 := by cases a <;> rfl
        exact ⟨f, rfl, by simp only [offs, h0]; omega, ht, hz⟩
      | succ j =>
        simp only [get] at hg
        obtain ⟨f', h1, h2, h3, h4⟩ := ihb fs v.2 j _ y hr hg
        exact ⟨f', by simpa using h1, by simp only [offs]; omega, h3, h4⟩
  | int k => intro fs v j off y hf hg; simp [get] at hg
  | bool => intro fs v j off y hf hg; simp [get] at hg
  | str => intro fs v j off y hf hg; simp [get] at hg
  | unit => intro fs v j off y hf hg; simp [get] at hg
  | slice t _ => intro fs v j off y hf hg; simp [get] at hg
  | arr n t _ => intro fs v j off y hf hg; simp [get] at hg

theorem get_struct {u : Ty} {v : u.den} {j : Nat} {y : Dv} (h : get u v [.fld j] = some y) : ∃ a b, u = .prod a b := by
  cases u <;> first | exact ⟨_, _, rfl⟩ | (simp [get] at h; done)

section
variable {P : Program} {tab : Tab} {B : World} {R0 L : Nat → Prop} {st : St} {V : Nat → Value} {w : World} {N : Env} {a : Act} {o : Oper} {ups : Ups} {m : Nat}

/-- The address of a part: what it leads to. -/
theorem sub_addr (hg : Good B R0 L st V w) {l : Lk} {v : Value} (h : LkOK (RO B R0 st V) st V w l v) {u : Ty} {x : u.den} {q : Way} {y : Dv} (ha : aim l = some ⟨u, x⟩) (hy : get u x [q] = some y) {s : Slot}
    (hs : (match l.s with | .rpt _ _ => some (.rpt y.1 y.2) | .apt n k p => some (.apt n k (p ++ [q])) | _ => none : Option Slot) = some s) :
    ∃ ad, v = .pointer (some ad) ∧ SlotRep w (RO B R0 st V) st V s (.pointer (some (ad.add (offs u [q])))) ∧ owning s = false := by
  obtain ⟨sl, c⟩ := l
  have hr := h.rep
  have ho := h.own
  simp only at hr ho hs
  unfold aim at ha
  simp only at ha
  split at ha
  · injection ha with ha
    cases ha
    simp only [Option.some.injEq] at hs
    subst hs
    obtain ⟨ad, cs, rfl, g1, g2, g3, g4⟩ := hr
    obtain ⟨k1, k2⟩ := rep_get u x cs [q] y.1 y.2 g3 hy
    exact ⟨ad, rfl, ⟨_, _, rfl, by rw [add_block]; exact g1, by rw [add_block]; exact g2, k1, lies_mid g4 _ _⟩, rfl⟩
  · rename_i n k p n' t z
    split at ha
    · rename_i hn
      subst hn
      have hk := ho n k rfl
      simp only [Option.some.injEq] at hs
      subst hs
      obtain ⟨ad, hV, hv⟩ := hr.1 _ _ hk.symm
      refine ⟨_, hv, ⟨fun t' x' h' => ⟨ad, hV, ?_⟩, fun t' xs' h' => ?_⟩, rfl⟩
      · rw [← hk] at h'
        injection h' with e1 e2 e3
        subst e2
        cases e3
        rw [offs_append _ _ p [q] u x ha, add_add]
      · rw [← hk] at h'; cases h'
    · cases ha
  · rename_i n k q' p n' t xs
    split at ha
    · rename_i hn
      subst hn
      have hk := ho n k rfl
      simp only [Option.some.injEq] at hs
      subst hs
      obtain ⟨ad, L', c', hV, hv⟩ := hr.2 _ _ hk.symm
      refine ⟨_, hv, ⟨fun t' x' h' => ?_, fun t' xs' h' => ⟨ad, L', c', hV, ?_⟩⟩, rfl⟩
      · rw [← hk] at h'; cases h'
      · rw [← hk] at h'
        injection h' with e1 e2 e3
        subst e2
        cases e3
        rw [offs_append _ _ (q' :: p) [q] u x ha, add_add]
    · cases ha
  · cases ha

theorem did_fieldAddr (ok : TabOK P tab) (hg : Good B R0 L st V w) (hl : Link N V a) {t : TypeId} {x : Operand} {l : Lk} {f : Nat} {s : Slot} (ho : o.op = .fieldAddr t x f) (hx : look st x = some l)
    (hs : stepFieldAddr tab t l f = some s) (hi : into o.dst s = some ups) : Did P B R0 L st V w a o ups := by
  have h := look_ok hg hl hx
  unfold stepFieldAddr at hs
  split at hs
  · rename_i u v ha
    split at hs
    · rename_i ht
      split at hs
      · rename_i y hy
        obtain ⟨ad, hv, hrep, hlow⟩ := sub_addr hg h ha hy hs
        obtain ⟨fs, h1, h2⟩ := tab_struct ok ht (.inr (get_struct hy))
        obtain ⟨fl, g1, g2, g3, g4⟩ := fields_at u _ v f 0 y h2 hy
        refine did_into hg ?_ hrep hlow hi
        have g1' : fs[f]? = some fl := by simpa using g1
        have g4' : y.1.sz ≠ 0 := by omega
        simp [execOp, ho, Instr.fieldAt, run_underlying h1, g1', hv, Instr.sureAddr, fieldPlace, tm_sizeOf ok g3, g4', g2]
      · cases hs
    · cases hs
  · cases hs

theorem did_field (ok : TabOK P tab) (hg : Good B R0 L st V w) (hl : Link N V a) {t : TypeId} {x : Operand} {c : Slot} {u : Ty} {v : u.den} {f : Nat} {y : Dv} (ho : o.op = .field t x f) (hx : look st x = some ⟨.val u v, c⟩)
    (ht : ty tab t = some u) (hy : get u v [.fld f] = some y) (hi : into o.dst (.val y.1 y.2) = some ups) : Did P B R0 L st V w a o ups := by
  obtain ⟨cs, hr, hv⟩ := (look_ok hg hl hx).rep
  obtain ⟨a', b', hu⟩ := get_struct hy
  obtain ⟨fs, h1, h2⟩ := tab_struct ok ht (.inr ⟨a', b', hu⟩)
  obtain ⟨fl, g1, g2, g3, g4⟩ := fields_at u _ v f 0 y h2 hy
  obtain ⟨k1, k2⟩ := rep_get u v cs [.fld f] y.1 y.2 hr hy
  have g1' : fs[f]? = some fl := by simpa using g1
  have hag : u.agg = true := by rw [hu]; rfl
  have hp := tm_part ok g3 (all := cs) (off := fl.offset) (cs := (cs.drop (offs u [.fld f])).take y.1.sz) (by rw [g2]; simp) k1
  refine did_into hg (v := mkv y.1 ((cs.drop (offs u [.fld f])).take y.1.sz)) (s := .val y.1 y.2) ?_ ⟨_, k1, rfl⟩ rfl hi
  have hv' : a.eval x = .agg cs.toArray := by rw [hv, mkv, if_pos hag]
  simp [execOp, ho, Instr.field, run_underlying h1, g1', hv', asAgg, hp]

theorem intOf_ok (hg : Good B R0 L st V w) (hl : Link N V a) {x : Operand} {l : Lk} {n : Int} (hx : look st x = some l) (h : intOf? l = some n) : ∃ k, a.eval x = .int k n := by
  have hr := (look_ok hg hl hx).rep
  unfold intOf? at h
  split at h
  · rename_i k n' hs
    injection h with h
    subst h
    rw [hs] at hr
    exact ⟨k, vrep_int hr⟩
  · cases h

theorem getD_some {t : Ty} {xs : List t.den} {i : Nat} (h : i < xs.length) (d : t.den) : xs[i]? = some (xs.getD i d) := by
  simp [List.getD_eq_getElem?_getD, List.getElem?_eq_getElem h]

theorem did_indexAddr (ok : TabOK P tab) (hg : Good B R0 L st V w) (hl : Link N V a) {t : TypeId} {x i : Operand} {lx li : Lk} {s : Slot} (ho : o.op = .indexAddr t x i) (hx : look st x = some lx) (hi' : look st i = some li)
    (hs : stepIndexAddr tab t lx li = some s) (hi : into o.dst s = some ups) : Did P B R0 L st V w a o ups := by
  have h := look_ok hg hl hx
  have hrep := h.rep
  have hown := h.own
  obtain ⟨sl, c⟩ := lx
  simp only at hrep hown
  unfold stepIndexAddr at hs
  split at hs
  · cases hs
  · rename_i n hn
    obtain ⟨k, hk⟩ := intOf_ok hg hl hi' hn
    simp only at hs
    split at hs
    · rename_i u htu
      obtain ⟨e, he, hte, hz⟩ := tab_slice ok htu
      split at hs
      · -- read only
        rename_i u' xs
        split at hs
        · rename_i hu
          subst hu
          split at hs
          · rename_i hb
            obtain ⟨hb1, hb2⟩ := hb
            injection hs with hs
            subst hs
            obtain ⟨cs, ⟨A, cp, rfl, g1, g2, g3⟩, hv⟩ := hrep
            rcases g3 with g3 | ⟨ad, inner, rfl, g4, g5, g6, g7⟩
            · subst g3; simp at hb2; omega
            · have hlt : n.toNat < List.length xs := by omega
              have hget := g6.get (fun x c hx => rep_len u' hx) n.toNat _ (getD_some hlt u'.dflt)
              refine did_into hg (v := .pointer (some (ad.add (n.toNat * u'.sz)))) (s := .rpt u' (xs.getD n.toNat u'.dflt)) ?_ ⟨_, _, rfl, by rw [add_block]; exact g4, by rw [add_block]; exact g5, hget, lies_mid g7 _ _⟩ rfl hi
              have hv' : a.eval x = .slice (some ad) (List.length xs) cp := by rw [hv]; rfl
              simp [execOp, ho, Instr.indexAt, hk, asIntOf, run_underlying he, hv', hb1, hb2, tm_sizeOf ok hte]
          · cases hs
        · cases hs
      · -- the whole of a row
        rename_i n1 k1 n2 u' xs
        split at hs
        · rename_i hu
          obtain ⟨hn1, hu⟩ := hu
          subst hn1 hu
          split at hs
          · rename_i hb
            obtain ⟨hb1, hb2⟩ := hb
            injection hs with hs
            subst hs
            have hkk := hown n1 k1 rfl
            have hv := hrep _ _ hkk.symm
            have hkr := hg.rep k1
            rw [← hkk] at hkr
            obtain ⟨A, c2, cs, hV2, q1, q2, q3, q4⟩ := hkr
            rcases q4 with ⟨q4, q5⟩ | ⟨ad, rfl, hm⟩
            · omega
            · refine did_into hg (v := .pointer (some (ad.add (n.toNat * u'.sz)))) (s := .apt n1 k1 [.idx n.toNat]) ?_ ⟨fun t' x' h' => ?_, fun t' xs' h' => ⟨ad, _, _, hV2, ?_⟩⟩ rfl hi
              · have hv' := hv.trans hV2
                simp [execOp, ho, Instr.indexAt, hk, asIntOf, run_underlying he, hv', hb1, hb2, tm_sizeOf ok hte]
              · rw [← hkk] at h'; cases h'
              · rw [← hkk] at h'
                injection h' with e1 e2 e3
                subst e2
                have h0 : offs u' [] = 0 := by cases u' <;> rfl
                simp [offs, h0]
          · cases hs
        · cases hs
      · -- a part of a row
        rename_i n1 k1 lo len n2 u' xs
        split at hs
        · rename_i hu
          obtain ⟨hn1, hu⟩ := hu
          subst hn1 hu
          split at hs
          · rename_i hb
            obtain ⟨hb1, hb2⟩ := hb
            injection hs with hs
            subst hs
            have hkk := hown n1 k1 rfl
            obtain ⟨h0, A, L', c, A', hV, hv, h8⟩ := hrep _ _ hkk.symm
            have hkr := hg.rep k1
            rw [← hkk] at hkr
            obtain ⟨A2, c2, cs, hV2, q1, q2, q3, q4⟩ := hkr
            rw [hV] at hV2
            injection hV2 with e1 e2 e3
            subst e1 e2 e3
            rcases q4 with ⟨q4, q5⟩ | ⟨ad, rfl, hm⟩
            · omega
            · rcases h8 with ⟨h8, _⟩ | ⟨ad2, j, h8, hA', _, hj⟩
              · cases h8
              · injection h8 with h8
                subst h8
                have hj' := hj (by omega)
                subst hj'
                subst hA'
                refine did_into hg (v := .pointer (some ((ad.add (lo * u'.sz)).add (n.toNat * u'.sz)))) (s := .apt n1 k1 [.idx (lo + n.toNat)]) ?_ ⟨fun t' x' h' => ?_, fun t' xs' h' => ⟨ad, _, _, hV, ?_⟩⟩ rfl hi
                · simp [execOp, ho, Instr.indexAt, hk, asIntOf, run_underlying he, hv, hb1, hb2, tm_sizeOf ok hte]
                · rw [← hkk] at h'; cases h'
                · rw [← hkk] at h'
                  injection h' with e1 e2 e3
                  subst e2
                  have h0 : offs u' [] = 0 := by cases u' <;> rfl
                  simp [offs, h0, add_add, Nat.add_mul]
          · cases hs
        · cases hs
      · cases hs
    · rename_i k' u htu
      obtain ⟨e, he, hte, hz⟩ := tab_arr ok htu
      split at hs
      · rename_i k2 u2 xs ha
        split at hs
        · rename_i hu
          obtain ⟨hk2, hu⟩ := hu
          subst hk2 hu
          split at hs
          · rename_i hb
            obtain ⟨hb1, hb2⟩ := hb
            have hlen : List.length xs = k2 := by
              obtain ⟨ad, cs, _, h1, _⟩ := aim_ok hg h ha
              exact h1.1
            have hlt : n.toNat < List.length xs := by omega
            have hgy : get (.arr k2 u2) xs [.idx n.toNat] = some ⟨u2, xs.getD n.toNat u2.dflt⟩ := by
              have := getD_some hlt u2.dflt
              simp only [get, this]
            obtain ⟨ad, hv, hrep', hlow⟩ := sub_addr hg h ha hgy (s := s) (by
              cases sl <;> exact hs)
            refine did_into hg ?_ hrep' hlow hi
            have h0 : offs u2 [] = 0 := by cases u2 <;> rfl
            simp [execOp, ho, Instr.indexAt, hk, asIntOf, run_underlying he, hv, Instr.sureAddr, hb1, hb2, tm_sizeOf ok hte, offs, h0]
          · cases hs
        · cases hs
      · cases hs
    · cases hs

end
end Go.Tm

/- What an operation does: values and rows that are built. -/
set_option linter.unusedVariables false
set_option linter.unusedSimpArgs false
namespace Go.Tm

/-! ### Several operands for good -/
theorem app_key {u : Ups} (hu : ∀ p ∈ u, owning p.2 = false) {k : Nat} : ∀ {st : St}, owning (app u st k) = true → (∀ p ∈ u, p.1 ≠ k) ∧ app u st k = st k := by
  induction u with
  | nil => intro st h; exact ⟨fun p hp => by simp at hp, rfl⟩
  | cons p u ih =>
    intro st h
    obtain ⟨h1, h2⟩ := ih (fun q hq => hu q (by simp [hq])) h
    simp only [app_cons] at h h2
    rw [h2] at h
    by_cases e : k = p.1
    · rw [e, put_same, hu p (by simp)] at h
      cases h
    · refine ⟨fun q hq => ?_, ?_⟩
      · rcases List.mem_cons.1 hq with rfl | hq
        · exact Ne.symm e
        · exact h1 q hq
      · show app u (put st p.1 p.2) k = st k
        rw [h2, put_ne _ _ e]

theorem RO_app {B : World} {R0 : Nat → Prop} {st : St} {V : Nat → Value} {u us : Ups} (hs : ∀ p ∈ u, p ∈ us) (hu : ∀ p ∈ us, owning p.2 = false) (b : Nat) (h : RO B R0 (app u st) V b) : RO B R0 (app us st) V b := by
  refine ⟨h.1, fun k hk => ?_⟩
  have ho : owning (app us st k) = true := by
    cases he : owning (app us st k) with
    | true => rfl
    | false => rw [ownBlk_none he] at hk; cases hk
  obtain ⟨h1, h2⟩ := app_key hu ho
  rw [h2] at hk
  have : app u st k = st k := by
    clear h hk ho h2
    induction u generalizing st with
    | nil => rfl
    | cons p u ih =>
      rw [app_cons, ih (fun q hq => hs q (by simp [hq])), put_ne _ _ (Ne.symm (h1 p (hs p (by simp))))]
  rw [← this] at hk
  exact h.2 k hk

def Frz (st : St) (u : Ups) : Prop := ∀ p ∈ u, (∃ n t xs, st p.1 = .own n t xs ∧ p.2 = .val (.slice t) xs) ∨ (st p.1 = p.2 ∧ owning p.2 = false ∧ aliasOf p.2 = none)

theorem Frz.low {st : St} {u : Ups} (h : Frz st u) : ∀ p ∈ u, owning p.2 = false ∧ aliasOf p.2 = none := by
  intro p hp
  rcases h p hp with ⟨n, t, xs, _, h2⟩ | ⟨_, h2, h3⟩
  · rw [h2]; exact ⟨rfl, rfl⟩
  · exact ⟨h2, h3⟩

theorem Good.frz {B : World} {R0 L : Nat → Prop} {V : Nat → Value} {w : World} {u : Ups} : ∀ {st : St}, Good B R0 L st V w → Frz st u → Good B R0 L (app u st) V w := by
  induction u with
  | nil => exact fun h _ => h
  | cons p u ih =>
    intro st hg hf
    have hg' : Good B R0 L (Tm.put st p.1 p.2) V w := by
      rcases hf p (by simp) with ⟨n, t, xs, h1, h2⟩ | ⟨h1, _⟩
      · rw [h2]; exact hg.freeze h1
      · rw [← h1, put_eta]; exact hg
    refine ih hg' (fun q hq => ?_)
    show (∃ n t xs, Tm.put st p.1 p.2 q.1 = Slot.own n t xs ∧ q.2 = Slot.val t.slice xs) ∨ (Tm.put st p.1 p.2 q.1 = q.2 ∧ owning q.2 = false ∧ aliasOf q.2 = none)
    by_cases e : q.1 = p.1
    · refine .inr ?_
      rw [e, put_same]
      rcases hf p (by simp) with ⟨n, t, xs, h1, h2⟩ | ⟨h1, h2, h3⟩ <;> rcases hf q (by simp [hq]) with ⟨n', t', xs', h1', h2'⟩ | ⟨h1', h2', h3'⟩
      · rw [e, h1] at h1'
        injection h1' with e1 e2 e3
        subst e2
        cases e3
        exact ⟨h2.trans h2'.symm, by rw [h2']; rfl, by rw [h2']; rfl⟩
      · rw [e, h1] at h1'
        rw [← h1'] at h2'
        cases h2'
      · rw [e, h1] at h1'
        rw [h1'] at h2
        cases h2
      · rw [e, h1] at h1'
        exact ⟨h1', h2', h3'⟩
    · rw [put_ne _ _ e]
      exact hf q (by simp [hq])

def looks (st : St) : List Operand → Option (List Lk)
  | [] => some []
  | x :: r => match look st x, looks st r with
    | some l, some ls => some (l :: ls)
    | _, _ => none

def allRep (w : World) (R : Nat → Prop) : List Dv → List Value → Prop
  | [], [] => True
  | d :: ds, v :: vs => vrep w R d.1 d.2 v ∧ allRep w R ds vs
  | _, _ => False

theorem allRep.mono {w : World} {R R' : Nat → Prop} (hR : ∀ b, R b → R' b) : ∀ {ds : List Dv} {vs : List Value}, allRep w R ds vs → allRep w R' ds vs
  | [], [], _ => trivial
  | d :: ds, v :: vs, h => ⟨vrep_mono (Nat.le_refl _) (fun b _ => hR b) (fun _ _ _ => rfl) h.1, allRep.mono hR h.2⟩
  | [], _ :: _, h => h.elim
  | _ :: _, [], h => h.elim

theorem frzAll_ok {B : World} {R0 L : Nat → Prop} {st : St} {V : Nat → Value} {w : World} {N : Env} {a : Act} (hg : Good B R0 L st V w) (hl : Link N V a) : ∀ {xs : List Operand} {ls : List Lk} {ws : List (Option Ty)} {ds : List Dv} {us : Ups},
    looks st xs = some ls → frzAll ls ws = some (ds, us) → Frz st us ∧ allRep w (RO B R0 (app us st) V) ds (xs.map a.eval)
  | [], ls, ws, ds, us, h1, h2 => by
    simp only [looks, Option.some.injEq] at h1
    subst h1
    simp only [frzAll, Option.some.injEq, Prod.mk.injEq] at h2
    obtain ⟨rfl, rfl⟩ := h2
    exact ⟨fun p hp => by simp at hp, trivial⟩
  | x :: xs, ls, ws, ds, us, h1, h2 => by
    simp only [looks] at h1
    split at h1
    · rename_i l ls' e1 e2
      injection h1 with h1
      subst h1
      simp only [frzAll] at h2
      split at h2
      · rename_i d u ds' us' e3 e4
        simp only [Option.some.injEq, Prod.mk.injEq] at h2
        obtain ⟨rfl, rfl⟩ := h2
        obtain ⟨f1, f2⟩ := frzAll_ok hg hl e2 e4
        obtain ⟨g1, g2, g3⟩ := frz_ok hg (look_ok hg hl e1) e3
        have hfu : Frz st u := by
          rcases g3 with rfl | ⟨s, n, t, ys, rfl, h⟩
          · intro p hp; simp at hp
          · intro p hp
            simp only [List.mem_singleton] at hp
            subst hp
            exact .inl ⟨n, t, ys, h, rfl⟩
        have hall : Frz st (u ++ us') := by
          intro p hp
          rcases List.mem_append.1 hp with hp | hp
          · exact hfu p hp
          · exact f1 p hp
        have hlow : ∀ p ∈ u ++ us', owning p.2 = false := fun p hp => (hall.low p hp).1
        exact ⟨hall, vrep_mono (Nat.le_refl _) (fun b _ hb => RO_app (fun p hp => List.mem_append_left _ hp) hlow b hb) (fun _ _ _ => rfl) g2,
          f2.mono (fun b hb => RO_app (fun p hp => List.mem_append_right _ hp) hlow b hb)⟩
      · cases h2
    · cases h1

/-! ### What is filled -/
theorem fold_set (off : Nat) : ∀ (new : List Value) (k : Nat) (cs : List Value), off + k + new.length ≤ cs.length →
    (new.zipIdx k).foldl (fun (r : Array Value) (x : Value × Nat) => r.setIfInBounds (off + x.2) x.1) cs.toArray = (cs.take (off + k) ++ new ++ cs.drop (off + k + new.length)).toArray
  | [], k, cs, h => by simp
  | v :: new, k, cs, h => by
    simp only [List.length_cons] at h
    simp only [List.zipIdx_cons, List.foldl_cons]
    have e : (cs.toArray.setIfInBounds (off + k) v) = (ovr cs (off + k) [v]).toArray := by
      apply Array.ext'
      simp only [Array.toList_setIfInBounds, ovr]
      rw [List.set_eq_take_append_cons_drop, if_pos (by omega)]
      simp
    rw [e, fold_set off new (k + 1) _ (by simp [ovr]; omega)]
    have := ovr_cons (cs := cs) (o := off + k) (v := v) (vs := new) (by omega)
    simp only [ovr] at this ⊢
    rw [← Nat.add_assoc, this]

theorem upd_get : ∀ {u : Ty} {v : u.den} {p : List Way} {t : Ty} {y : t.den} {v' : u.den}, upd u v p t y = some v' → ∃ y0 : t.den, get u v p = some ⟨t, y0⟩ := by
  intro u
  have base : ∀ {u : Ty} {v : u.den} {t : Ty} {y : t.den} {v' : u.den}, upd u v [] t y = some v' → ∃ y0 : t.den, get u v [] = some ⟨t, y0⟩ := by
    intro u v t y v' h
    obtain ⟨rfl, _⟩ := upd_nil h
    exact ⟨v, by cases t <;> rfl⟩
  induction u with
  | prod a b iha ihb =>
    intro v p t y v' h
    cases p with
    | nil => exact base h
    | cons s p =>
      cases s with
      | idx i => simp [upd] at h
      | fld j =>
        cases j with
        | zero =>
          simp only [upd, Option.map_eq_some_iff] at h
          obtain ⟨z, hz, _⟩ := h
          simpa only [get] using iha hz
        | succ j =>
          simp only [upd, Option.map_eq_some_iff] at h
          obtain ⟨z, hz, _⟩ := h
          simpa only [get] using ihb hz
  | arr n t0 ih =>
    intro v p t y v' h
    cases p with
    | nil => exact base h
    | cons s p =>
      cases s with
      | fld j => simp [upd] at h
      | idx i =>
        simp only [upd] at h
        split at h
        · rename_i z hz
          simp only [Option.map_eq_some_iff] at h
          obtain ⟨z', hz', _⟩ := h
          obtain ⟨y0, h0⟩ := ih hz'
          exact ⟨y0, by simp only [get, hz]; exact h0⟩
        · cases h
  | int k => intro v p t y v' h; cases p with | nil => exact base h | cons s p => cases s <;> simp [upd] at h
  | bool => intro v p t y v' h; cases p with | nil => exact base h | cons s p => cases s <;> simp [upd] at h
  | str => intro v p t y v' h; cases p with | nil => exact base h | cons s p => cases s <;> simp [upd] at h
  | unit => intro v p t y v' h; cases p with | nil => exact base h | cons s p => cases s <;> simp [upd] at h
  | slice t0 _ => intro v p t y v' h; cases p with | nil => exact base h | cons s p => cases s <;> simp [upd] at h

def way : Ty → Nat → Way
  | .arr _ _, i => .idx i
  | _, i => .fld i

theorem fillT_cons {u : Ty} {v : u.den} {i : Nat} {d : Dv} {r : List (Nat × Dv)} {v' : u.den} (h : fillT u v ((i, d) :: r) = some v') : ∃ v1, upd u v [way u i] d.1 d.2 = some v1 ∧ fillT u v1 r = some v' := by
  cases u <;> simp only [fillT] at h <;> (split at h <;> first | (cases h; done) | (rename_i v1 hv; exact ⟨v1, hv, h⟩))

theorem fill_ok {w : World} {R : Nat → Prop} (place : Nat → Option (Nat × Nat)) : ∀ (ps : List (Nat × Dv)) (vs : List Value) (u : Ty) (v : u.den) (v' : u.den) (cs : List Value), rep w R u v cs → allRep w R (ps.map (·.2)) vs →
    fillT u v ps = some v' → (∀ (i : Nat) (v : u.den) (t : Ty) (y : t.den), get u v [way u i] = some ⟨t, y⟩ → place i = some (offs u [way u i], t.sz)) →
    ∃ cs', Instr.fill place cs.toArray ((ps.map (·.1)).zip vs) = some cs'.toArray ∧ rep w R u v' cs'
  | [], vs, u, v, v', cs, h, hr, hf, hp => by
    have : fillT u v [] = some v := by cases u <;> rfl
    rw [List.map_nil] at *
    rw [this] at hf
    injection hf with hf
    subst hf
    exact ⟨cs, by simp [Instr.fill], h⟩
  | (i, d) :: ps, [], u, v, v', cs, h, hr, hf, hp => hr.elim
  | (i, d) :: ps, x :: vs, u, v, v', cs, h, hr, hf, hp => by
    obtain ⟨v1, h1, h2⟩ := fillT_cons hf
    obtain ⟨⟨cd, hd, rfl⟩, hr'⟩ := hr
    obtain ⟨y0, hy0⟩ := upd_get h1
    have hpl := hp i v d.1 y0 hy0
    obtain ⟨k1, k2⟩ := rep_upd u v cs [way u i] d.1 d.2 v1 cd h h1 hd
    have hl := rep_len _ h
    have hld := rep_len _ hd
    have hcd := mkv_cells hd
    obtain ⟨cs', g1, g2⟩ := fill_ok place ps vs u v1 v' _ k1 hr' h2 hp
    refine ⟨cs', ?_, g2⟩
    simp only [List.map_cons, List.zip_cons_cons, Instr.fill, hpl, hcd]
    rw [if_neg (by simp [hld]; omega)]
    have e : (cd.toArray.zipIdx.foldl (fun (cs : Array Value) (x : Value × Nat) => cs.setIfInBounds (offs u [way u i] + x.2) x.1) cs.toArray) = (cs.take (offs u [way u i]) ++ cd ++ cs.drop (offs u [way u i] + d.1.sz)).toArray := by
      rw [← Array.foldl_toList, Array.toList_zipIdx]
      have hld' : cd.length = d.1.sz := hld
      have := fold_set (offs u [way u i]) cd 0 cs (by omega)
      rw [hld'] at this
      exact this
    exact (congrArg (fun z => Instr.fill place z ((ps.map (·.1)).zip vs)) e).trans g1

end Go.Tm

/- What an operation does: structs and rows that are built; new rows; cuts; conversions; lengths; what is appended. -/
set_option linter.unusedVariables false
set_option linter.unusedSimpArgs false
namespace Go.Tm

theorem allRep.len {w : World} {R : Nat → Prop} : ∀ {ds : List Dv} {vs : List Value}, allRep w R ds vs → ds.length = vs.length
  | [], [], _ => rfl
  | d :: ds, v :: vs, h => by simp [allRep.len h.2]
  | [], _ :: _, h => h.elim
  | _ :: _, [], h => h.elim

theorem zip_parts (ρ : Operand → Value) (ps : List (Nat × Operand)) (ds : List Dv) (h : ds.length = ps.length) :
    (((ps.map (·.1)).zip ds).map (·.1)).zip ((ps.map (·.2)).map ρ) = ps.map (fun x => (x.1, ρ x.2)) ∧ ((ps.map (·.1)).zip ds).map (·.2) = ds := by
  induction ps generalizing ds with
  | nil => cases ds <;> simp_all
  | cons p ps ih =>
    cases ds with
    | nil => simp at h
    | cons d ds =>
      obtain ⟨h1, h2⟩ := ih ds (by simpa using h)
      exact ⟨by simp only [List.map_cons, List.zip_cons_cons, h1], by simp only [List.map_cons, List.zip_cons_cons, h2]⟩

section
variable {P : Program} {tab : Tab} (ok : TabOK P tab)
include ok

theorem places_ok : ∀ (u : Ty) (fs : List Field) (off : Nat), fieldsOK tab fs u off = true →
    ∃ places, fs.mapM (fun f => (P.info? f.type).map fun i => (f.offset, i.size)) = some places ∧ ∀ (i : Nat) (v : u.den) (t : Ty) (y : t.den), get u v [.fld i] = some ⟨t, y⟩ → places[i]? = some (off + offs u [.fld i], t.sz) := by
  intro u
  induction u with
  | prod a b iha ihb =>
    intro fs off hf
    cases fs with
    | nil => simp [fieldsOK] at hf
    | cons f fs =>
      simp only [fieldsOK, Bool.and_eq_true, beq_iff_eq, bne_iff_ne, decide_eq_true_eq] at hf
      obtain ⟨⟨⟨⟨ho, hn⟩, ht⟩, hz⟩, hr⟩ := hf
      obtain ⟨places, h1, h2⟩ := ihb fs _ hr
      obtain ⟨i, hi, hsz, _⟩ := tab_info' ok ht
      refine ⟨(f.offset, i.size) :: places, by simp [List.mapM_cons, hi, h1], fun j v t y hg => ?_⟩
      cases j with
      | zero =>
        simp only [get, Option.some.injEq, Sigma.mk.injEq] at hg
        obtain ⟨rfl, _⟩ := hg
        have h0 : offs a [] = 0 := by cases a <;> rfl
        simp [offs, h0, ho, hsz]
      | succ j =>
        simp only [get] at hg
        have := h2 j v.2 t y hg
        simp only [List.getElem?_cons_succ, this, offs]
        congr 2
        omega
  | unit =>
    intro fs off hf
    cases fs with
    | nil => exact ⟨[], by simp, fun i v t y h => by simp [get] at h⟩
    | cons f fs => simp [fieldsOK] at hf
  | int k => intro fs off hf; cases fs <;> simp [fieldsOK] at hf
  | bool => intro fs off hf; cases fs <;> simp [fieldsOK] at hf
  | str => intro fs off hf; cases fs <;> simp [fieldsOK] at hf
  | slice t _ => intro fs off hf; cases fs <;> simp [fieldsOK] at hf
  | arr n t _ => intro fs off hf; cases fs <;> simp [fieldsOK] at hf

theorem built_ok {t : TypeId} {u : Ty} (ht : ty tab t = some u) (hu : u.agg = true) {w : World} {R : Nat → Prop} {ps : List (Nat × Dv)} {vs : List Value} {v' : u.den} (hr : allRep w R (ps.map (·.2)) vs) (hf : fillT u u.dflt ps = some v') :
    ∃ cs', P.built t ((ps.map (·.1)).zip vs) = some cs'.toArray ∧ rep w R u v' cs' := by
  obtain ⟨i, hi, hsz, hz⟩ := tab_info' ok ht
  have h0 := rep_zero w R u
  have hc := mkv_cells h0
  cases u with
  | arr n u =>
    obtain ⟨e, h1, h2, h3⟩ := tab_arr ok ht
    obtain ⟨ie, hie, hies, _⟩ := tab_info' ok h2
    obtain ⟨cs', g1, g2⟩ := fill_ok (fun j => some (j * ie.size, ie.size)) ps vs _ _ v' _ h0 hr hf (fun j v t y hg => by
      simp only [way, get] at hg
      split at hg
      · simp only [Option.some.injEq] at hg
        rename_i z hz'
        have : (⟨u, z⟩ : Dv) = ⟨t, y⟩ := by simpa [get] using hg
        cases this
        have h00 : offs u [] = 0 := by cases u <;> rfl
        simp [way, offs, h00, hies]
      · cases hg)
    refine ⟨cs', ?_, g2⟩
    simp only [Program.built, hi, h1, hz, hie, hc, g1]
  | unit =>
    obtain ⟨fs, h1, h2⟩ := tab_struct ok ht (.inl rfl)
    obtain ⟨places, p1, p2⟩ := places_ok ok _ _ _ h2
    obtain ⟨cs', g1, g2⟩ := fill_ok (places.toArray[·]?) ps vs _ _ v' _ h0 hr hf (fun j v t y hg => by
      have := p2 j v t y hg
      simpa [way] using this)
    refine ⟨cs', ?_, g2⟩
    simp only [Program.built, hi, h1, hz, p1, hc, g1]
  | prod a b =>
    obtain ⟨fs, h1, h2⟩ := tab_struct ok ht (.inr ⟨a, b, rfl⟩)
    obtain ⟨places, p1, p2⟩ := places_ok ok _ _ _ h2
    obtain ⟨cs', g1, g2⟩ := fill_ok (places.toArray[·]?) ps vs _ _ v' _ h0 hr hf (fun j v t y hg => by
      have := p2 j v t y hg
      simpa [way] using this)
    refine ⟨cs', ?_, g2⟩
    simp only [Program.built, hi, h1, hz, p1, hc, g1]
  | int k => simp [Ty.agg] at hu
  | bool => simp [Ty.agg] at hu
  | str => simp [Ty.agg] at hu
  | slice t => simp [Ty.agg] at hu
end

section
variable {P : Program} {tab : Tab} {B : World} {R0 L : Nat → Prop} {st : St} {V : Nat → Value} {w : World} {N : Env} {a : Act} {o : Oper} {ups : Ups} {m : Nat}

theorem did_build (ok : TabOK P tab) (hg : Good B R0 L st V w) (hl : Link N V a) {t : TypeId} {u : Ty} {parts : Array (Nat × Operand)} {ls : List Lk} {ws : List (Option Ty)} {ds : List Dv} {us : Ups} {v' : u.den} {d : Nat}
    (ho : o.op = .build t parts) (hd : o.dst = some d) (ht : ty tab t = some u) (hu : u.agg = true) (hx : looks st (parts.toList.map (·.2)) = some ls) (hz : frzAll ls ws = some (ds, us))
    (hf : fillT u u.dflt ((parts.toList.map (·.1)).zip ds) = some v') : Did P B R0 L st V w a o (us ++ [(d, .val u v')]) := by
  obtain ⟨h1, h2⟩ := frzAll_ok hg hl hx hz
  have hg' := hg.frz h1
  have hlen := h2.len
  simp only [List.length_map, Array.length_toList] at hlen
  obtain ⟨z1, z2⟩ := zip_parts a.eval parts.toList ds (by simpa using hlen)
  obtain ⟨cs', g1, g2⟩ := built_ok ok ht hu (ps := (parts.toList.map (·.1)).zip ds) (vs := (parts.toList.map (·.2)).map a.eval) (by rw [z2]; exact h2) hf
  rw [z1] at g1
  have hrun := run_build (P := P) w t (parts.map fun x => (x.1, a.eval x.2)) _ (by simpa using g1)
  refine ⟨.agg cs'.toArray, w, .inl (by simp [execOp, ho]; simp [hrun]), ?_⟩
  rw [app_append]
  simp only [putO, hd, app_cons, app_nil]
  exact hg'.put d _ _ rfl rfl rfl rfl rfl ⟨cs', g2, by simp [mkv, hu]⟩ (fun n e => by cases e)

theorem flat_made {u : Ty} {w : World} {R : Nat → Prop} (h : 0 < u.sz) (n : Nat) : ((Array.range (n * u.sz)).map ((mkv u u.zeroV).cells[· % (mkv u u.zeroV).cells.size]!)) = (List.replicate n u.zeroV).flatten.toArray := by
  have h0 := rep_zero w R u
  have hl := rep_len _ h0
  rw [mkv_cells h0]
  have hne : u.zeroV ≠ [] := by intro e; rw [e] at hl; simp at hl; omega
  apply Array.ext'
  simp only [Array.toList_map, Array.toList_range, List.size_toArray, hl]
  induction n with
  | zero => simp
  | succ n ih =>
    rw [List.replicate_succ', List.flatten_append, ← ih, Nat.add_mul, Nat.one_mul, List.range_add, List.map_append]
    congr 1
    simp only [List.map_map, List.flatten_cons, List.flatten_nil, List.append_nil]
    apply List.ext_getElem
    · simp [hl]
    · intro i h1 h2
      simp only [List.length_map, List.length_range] at h1
      simp only [List.getElem_map, List.getElem_range, Function.comp]
      rw [Nat.mul_add_mod_self_right, Nat.mod_eq_of_lt h1]
      simp [hl, h1]

theorem did_buildSlice (ok : TabOK P tab) (hg : Good B R0 L st V w) (hl : Link N V a) (hfr : Fresh m st) {t : TypeId} {u : Ty} {len : Nat} {parts : Array (Nat × Operand)} {ls : List Lk} {ws : List (Option Ty)} {ds : List Dv} {us : Ups} {xs : List u.den} {d : Nat}
    (ho : o.op = .buildSlice t len parts) (hd : o.dst = some d) (ht : ty tab t = some (.slice u)) (hx : looks st (parts.toList.map (·.2)) = some ls) (hz : frzAll ls ws = some (ds, us))
    (hf : fillT (.arr len u) (List.replicate len u.dflt) ((parts.toList.map (·.1)).zip ds) = some xs) (hsm : len * u.sz ≤ 16777216) : Did P B R0 L st V w a o (us ++ [(d, .own m u xs)]) := by
  obtain ⟨h1, h2⟩ := frzAll_ok hg hl hx hz
  have hg' := hg.frz h1
  have hlen := h2.len
  simp only [List.length_map, Array.length_toList] at hlen
  obtain ⟨z1, z2⟩ := zip_parts a.eval parts.toList ds (by simpa using hlen)
  obtain ⟨e, he, hte, hsz⟩ := tab_slice ok ht
  obtain ⟨ie, hie, hies, hiez⟩ := tab_info' ok hte
  have hrow : rep w (RO B R0 (app us st) V) (.arr len u) (List.replicate len u.dflt) (List.replicate len u.zeroV).flatten := ⟨List.length_replicate, repList.replicate (rep_zero _ _ u) len⟩
  obtain ⟨cs', g1, g2⟩ := fill_ok (fun j => some (j * ie.size, ie.size)) ((parts.toList.map (·.1)).zip ds) ((parts.toList.map (·.2)).map a.eval) (.arr len u) _ xs _ hrow (by rw [z2]; exact h2) hf (fun j v t y hgt => by
      simp only [way, get] at hgt
      split at hgt
      · rename_i z hz'
        have : (⟨u, z⟩ : Dv) = ⟨t, y⟩ := by simpa [get] using hgt
        cases this
        have h00 : offs u [] = 0 := by cases u <;> rfl
        simp [way, offs, h00, hies]
      · cases hgt)
  rw [z1] at g1
  have hxl : xs.length = len := g2.1
  have hcl : cs'.length = len * u.sz := rep_len _ g2
  have hrun : (execOp a.eval o).run P w = .ok (.value (.slice (some ⟨w.heap.size, 0, none⟩) len len)) (w.alloc (.cells cs'.toArray e)) := by
    rcases Nat.eq_zero_or_pos len with h0 | hp
    · subst h0
      have hcs : cs' = [] := List.eq_nil_of_length_eq_zero (by simpa using hcl)
      subst hcs
      simp only [List.replicate_zero, List.flatten_nil] at g1
      have g1' : Instr.fill (fun j => some (j * u.sz, u.sz)) #[] (parts.map fun x => (x.1, a.eval x.2)).toList = some #[] := by rw [hies] at g1; simpa using g1
      simp only [Array.toList_map] at g1'
      simp [execOp, ho, Instr.buildSlice, run_underlying he, tm_sizeOf ok hte, newRow, g1', show Array.range 0 = #[] from rfl]
    · have := run_buildSlice (P := P) w t e len (parts.map fun x => (x.1, a.eval x.2)) cs'.toArray ie _ he hie hiez (by rw [hies]; omega) (by rw [hies]; have := Nat.mul_pos hp hsz; omega) (by
        rw [hies, flat_made (w := w) (R := fun _ => True) hsz]
        rw [hies] at g1
        simpa using g1)
      simp only [execOp, ho]
      simp [this]
  refine ⟨_, _, .inl hrun, ?_⟩
  rw [app_append]
  simp only [putO, hd, app_cons, app_nil]
  refine hg'.fresh d _ _ (but_alloc w _ none) (fun hR => ?_) (fun b hb => ?_) (fresh_own (hfr.app (fun p hp => (h1.low p hp).2)))
  · refine ⟨_, len, cs', by rw [hxl], by rw [hxl]; exact Nat.le_refl _, ?_, (g2.2.imp (fun x c _ hx => rep_mono (by simp) hR (fun b hb _ => Go.RowKit.Below.heap_alloc w _ b hb) _ hx)), .inr ⟨_, rfl, ?_⟩⟩
    · unfold maxLen
      have : len ≤ len * u.sz := Nat.le_mul_of_pos_right _ hsz
      omega
    · exact mem_new w _ e _ _ (by simp [hcl]) (by simp [hcl]) (fun j v hv => by simpa using hv)
  · simp only [ownBlk, Option.some.injEq] at hb
    omega

theorem did_makeSlice (ok : TabOK P tab) (hg : Good B R0 L st V w) (hl : Link N V a) (hfr : Fresh m st) {t : TypeId} {u : Ty} {x y : Operand} {lx ly : Lk} {l c : Int} {d : Nat}
    (ho : o.op = .makeSlice t x y) (hd : o.dst = some d) (ht : ty tab t = some (.slice u)) (hx : look st x = some lx) (hy : look st y = some ly) (hlx : intOf? lx = some l) (hly : intOf? ly = some c)
    (h0 : 0 ≤ l) (hlc : l ≤ c) (hb : c * (u.mx : Int) ≤ 281474976710656) : Did P B R0 L st V w a o [(d, .own m u (List.replicate l.toNat u.dflt))] := by
  obtain ⟨k1, e1⟩ := intOf_ok hg hl hx hlx
  obtain ⟨k2, e2⟩ := intOf_ok hg hl hy hly
  obtain ⟨e, he, hte, hsz⟩ := tab_slice ok ht
  obtain ⟨bytes, hlk⟩ := ty_lk hte
  obtain ⟨ie, hie, hies, hieb, hiez⟩ := tab_info ok hlk
  have hmx := tab_bytes ok hlk
  have hpos := Ty.mx_pos u hsz
  have hcb : (ie.bytes : Int) * c ≤ 281474976710656 := by
    rw [hieb, Int.mul_comm]
    refine Int.le_trans (Int.mul_le_mul_of_nonneg_left (by omega) (by omega)) hb
  have hc63 : c ≤ 281474976710656 := by
    refine Int.le_trans ?_ hb
    have := Int.mul_le_mul_of_nonneg_left (show (1 : Int) ≤ u.mx by omega) (show 0 ≤ c by omega)
    omega
  have hrun := run_make (P := P) w t e ie _ he hie hiez k1 k2 l c h0 hlc hcb (by omega)
  have hrun' : (execOp a.eval o).run P w = .ok (.value (.slice (some ⟨w.heap.size, 0, none⟩) l.toNat c.toNat)) (w.alloc (.cells (madeCells (mkv u u.zeroV).cells (c.toNat * ie.size)) e)) := by
    simp only [execOp, ho]
    simp [e1, e2, hrun]
  refine ⟨_, _, .inl hrun', ?_⟩
  simp only [putO, hd, app_cons, app_nil]
  refine hg.fresh d _ _ (but_alloc w _ none) (fun hR => ?_) (fun b hb => ?_) (fresh_own hfr)
  · have hfl : madeCells (mkv u u.zeroV).cells (c.toNat * ie.size) = (List.replicate c.toNat u.zeroV).flatten.toArray := by
      rw [hies]; exact flat_made (w := w) (R := fun _ => True) hsz c.toNat
    have hall : rep w (fun _ => True) (.arr c.toNat u) (List.replicate c.toNat u.dflt) (List.replicate c.toNat u.zeroV).flatten := ⟨List.length_replicate, repList.replicate (rep_zero _ _ u) _⟩
    have hcl := rep_len _ hall
    simp only [Ty.sz] at hcl
    refine ⟨some ⟨w.heap.size, 0, none⟩, c.toNat, (List.replicate l.toNat u.zeroV).flatten, by simp, by simp; omega, ?_, repList.replicate (rep_zero _ _ u) _, .inr ⟨_, rfl, ?_⟩⟩
    · unfold maxLen
      omega
    · rw [hfl]
      have hle : l.toNat ≤ c.toNat := by omega
      have hsplit : (List.replicate c.toNat u.zeroV).flatten = (List.replicate l.toNat u.zeroV).flatten ++ (List.replicate (c.toNat - l.toNat) u.zeroV).flatten := by
        rw [← List.flatten_append, List.replicate_append_replicate]
        congr 2
        omega
      refine mem_new w _ e _ _ (by simp only [List.size_toArray, hcl]; exact Nat.le_refl _) ?_ (fun j v hv => ?_)
      · rw [← hcl, hsplit]
        simp
      · rw [hsplit]
        simp only [List.getElem?_toArray]
        rw [List.getElem?_append_left (by
          rcases Nat.lt_or_ge j ((List.replicate l.toNat u.zeroV).flatten.length) with h | h
          · exact h
          · rw [List.getElem?_eq_none h] at hv; cases hv)]
        exact hv
  · simp only [ownBlk, Option.some.injEq] at hb
    omega

end
end Go.Tm

/- What an operation does: cuts, single bytes, parts of results, conversions, lengths, what is appended. -/
set_option linter.unusedVariables false
set_option linter.unusedSimpArgs false
namespace Go.Tm

def BndOK (l : Option Lk) (v : Option Value) : Prop :=
  match l, v with
  | none, none => True
  | some l, some v => ∀ n, intOf? l = some n → ∃ k, v = .int k n
  | _, _ => False

theorem cut_ok {P : Program} {w : World} {lo hi : Option Lk} {lov hiv : Option Value} {n cap l h : Nat} {isSl : Bool} (hlo : BndOK lo lov) (hhi : BndOK hi hiv) (hc : cutB lo hi (n : Int) = some (l, h)) (hn : n ≤ cap) :
    (Instr.sliceBounds isSl n cap lov hiv none).run P w = .ok (l, h, cap) w ∧ l ≤ h ∧ h ≤ n := by
  cases lo with
  | none =>
    cases lov with
    | some v => exact hlo.elim
    | none =>
      cases hi with
      | none =>
        cases hiv with
        | some v => exact hhi.elim
        | none =>
          simp only [cutB, Option.some.injEq, Prod.mk.injEq] at hc
          obtain ⟨rfl, rfl⟩ := hc
          simp [Instr.sliceBounds]
      | some y =>
        cases hiv with
        | none => exact hhi.elim
        | some v =>
          simp only [cutB] at hc
          split at hc
          · rename_i q hq
            split at hc
            · simp only [Option.some.injEq, Prod.mk.injEq] at hc
              obtain ⟨rfl, rfl⟩ := hc
              obtain ⟨k, rfl⟩ := hhi q hq
              refine ⟨?_, by omega, by omega⟩
              have h1 : 0 ≤ q ∧ q ≤ (cap : Int) := by omega
              simp [Instr.sliceBounds, Instr.sliceBound, asIntOf, h1]
            · cases hc
          · cases hc
  | some x =>
    cases lov with
    | none => exact hlo.elim
    | some lv =>
      cases hi with
      | none =>
        cases hiv with
        | some v => exact hhi.elim
        | none =>
          simp only [cutB] at hc
          split at hc
          · rename_i q hq
            split at hc
            · simp only [Option.some.injEq, Prod.mk.injEq] at hc
              obtain ⟨rfl, rfl⟩ := hc
              obtain ⟨k, rfl⟩ := hlo q hq
              refine ⟨?_, by omega, by omega⟩
              have h1 : 0 ≤ q ∧ q ≤ (n : Int) := by omega
              simp [Instr.sliceBounds, Instr.sliceBound, asIntOf, h1]
            · cases hc
          · cases hc
      | some y =>
        cases hiv with
        | none => exact hhi.elim
        | some v =>
          simp only [cutB] at hc
          split at hc
          · rename_i q r hq hr
            split at hc
            · split at hc
              · simp only [Option.some.injEq, Prod.mk.injEq] at hc
                obtain ⟨rfl, rfl⟩ := hc
                obtain ⟨k, rfl⟩ := hlo q hq
                obtain ⟨k', rfl⟩ := hhi r hr
                refine ⟨?_, by omega, by omega⟩
                have h1 : 0 ≤ r ∧ r ≤ (cap : Int) := by omega
                have h2 : 0 ≤ q ∧ q ≤ ((r.toNat : Nat) : Int) := by omega
                have h3 : ((r.toNat : Nat) : Int) = r := by omega
                have h4 : 0 ≤ q ∧ q ≤ r := by omega
                simp [Instr.sliceBounds, Instr.sliceBound, asIntOf, h1, h3, h4]
                try omega
              · cases hc
            · cases hc
          · cases hc

section
variable {P : Program} {tab : Tab} {B : World} {R0 L : Nat → Prop} {st : St} {V : Nat → Value} {w : World} {N : Env} {a : Act} {o : Oper} {ups : Ups} {m : Nat}

def lookO (st : St) : Option Operand → Option (Option Lk)
  | none => some none
  | some x => (look st x).map some

theorem bnd_ok (hg : Good B R0 L st V w) (hl : Link N V a) {x : Option Operand} {l : Option Lk} (h : lookO st x = some l) : BndOK l (x.map a.eval) := by
  cases x with
  | none => simp only [lookO, Option.some.injEq] at h; subst h; trivial
  | some x =>
    simp only [lookO, Option.map_eq_some_iff] at h
    obtain ⟨l, h, rfl⟩ := h
    exact fun n hn => intOf_ok hg hl h hn

theorem did_slice (ok : TabOK P tab) (hg : Good B R0 L st V w) (hl : Link N V a) {t : TypeId} {x : Operand} {lo hi : Option Operand} {lx : Lk} {llo lhi : Option Lk} {s : Slot} (ho : o.op = .slice t x lo hi none) (hx : look st x = some lx)
    (hlo : lookO st lo = some llo) (hhi : lookO st hi = some lhi) (hs : stepSlice tab t lx llo lhi = some s) (hi' : into o.dst s = some ups) : Did P B R0 L st V w a o ups := by
  have h := look_ok hg hl hx
  have hrep := h.rep
  have hown := h.own
  have b1 := bnd_ok hg hl hlo
  have b2 := bnd_ok hg hl hhi
  obtain ⟨sl, c⟩ := lx
  simp only at hrep hown
  unfold stepSlice at hs
  simp only at hs
  have hexec : ∀ (v : Value) (y : Value), a.eval x = y → (Instr.sliceAt t y (lo.map a.eval) (hi.map a.eval) none).run P w = .ok v w → (execOp a.eval o).run P w = .ok (.value v) w := by
    intro v y e h
    simp only [execOp, ho, e]
    simp [h]
  split at hs
  · -- a string
    rename_i z
    split at hs
    · rename_i ht
      have ht' := tab_str ok ht
      simp only [Option.map_eq_some_iff] at hs
      obtain ⟨⟨l', h'⟩, hc, rfl⟩ := hs
      obtain ⟨r1, r2, r3⟩ := cut_ok (P := P) (w := w) (isSl := false) b1 b2 hc (Nat.le_refl _)
      have hv := vrep_str hrep
      refine did_into hg (v := .string (z.extract l' h')) (s := .val .str (z.extract l' h')) (hexec _ _ hv ?_) (mk_str _ _ _) rfl hi'
      rw [run_sliceAt_string _ _ _ _ _ _ ht']
      simp [Instr.slice, run_underlying ht', r1]
    · cases hs
  · -- what is only read
    rename_i u xs
    split at hs
    · rename_i ht
      obtain ⟨e, he, hte, hz⟩ := tab_slice ok ht
      simp only [Option.map_eq_some_iff] at hs
      obtain ⟨⟨l', h'⟩, hc, rfl⟩ := hs
      obtain ⟨cs, ⟨A, cp, rfl, g1, g2, g3⟩, hv⟩ := hrep
      have hv' : a.eval x = .slice A (List.length xs) cp := by rw [hv]; rfl
      obtain ⟨r1, r2, r3⟩ := cut_ok (P := P) (w := w) (isSl := true) b1 b2 hc g1
      have hrun : (Instr.sliceAt t (.slice A (List.length xs) cp) (lo.map a.eval) (hi.map a.eval) none).run P w = .ok (.slice (if cp = l' then A else A.map (·.add (l' * u.sz))) (h' - l') (cp - l')) w := by
        have hel : P.elem t = e := by simp [Program.elem, he]
        rw [run_sliceAt_slice _ _ _ _ _ _ (by rw [hel]; exact he)]
        simp [Instr.slice, run_underlying he, r1, tm_sizeOf ok hte]
      have hlen : ((List.drop l' xs).take (h' - l')).length = h' - l' := by simp; omega
      refine did_into hg (v := .slice (if cp = l' then A else A.map (·.add (l' * u.sz))) (h' - l') (cp - l')) (s := .val (.slice u) ((List.drop l' xs).take (h' - l'))) (hexec _ _ hv' hrun)
        ⟨[.slice (if cp = l' then A else A.map (·.add (l' * u.sz))) ((List.drop l' xs).take (h' - l')).length (cp - l')], ⟨if cp = l' then A else A.map (·.add (l' * u.sz)), cp - l', rfl, ?_, ?_, ?_⟩, ?_⟩ rfl hi'
      · rw [hlen]; omega
      · omega
      · rcases g3 with g3 | ⟨ad, inner, rfl, g4, g5, g6, g7⟩
        · left; rw [g3]; simp
        · rcases Nat.eq_zero_or_pos (h' - l') with h0 | hp
          · left; exact List.eq_nil_of_length_eq_zero (by rw [hlen]; exact h0)
          · right
            have hne : cp ≠ l' := by omega
            refine ⟨ad.add (l' * u.sz), ((inner.drop (l' * u.sz)).take ((h' - l') * u.sz)), by rw [if_neg hne]; rfl, by rw [add_block]; exact g4, by rw [add_block]; exact g5,
              (g6.drop (fun x c hx => rep_len u hx) l').take (fun x c hx => rep_len u hx) _, lies_mid g7 _ _⟩
      · rw [hlen]; rfl
    · cases hs
  · -- the whole of a row
    rename_i n k
    split at hs
    · rename_i n' u xs
      split at hs
      · rename_i hn
        obtain ⟨hn, ht⟩ := hn
        subst hn
        obtain ⟨e, he, hte, hz⟩ := tab_slice ok ht
        have hel : P.elem t = e := by simp [Program.elem, he]
        have hk := hown n k rfl
        have hv := hrep _ _ hk.symm
        have hkr := hg.rep k
        rw [← hk] at hkr
        obtain ⟨A, c2, cs, hV, q1, q2, q3, q4⟩ := hkr
        split at hs
        · rename_i hno
          injection hs with hs
          subst hs
          have e1 : lo = none := by
            cases lo with
            | none => rfl
            | some y => simp only [lookO, Option.map_eq_some_iff] at hlo; obtain ⟨_, _, rfl⟩ := hlo; simp at hno
          have e2 : hi = none := by
            cases hi with
            | none => rfl
            | some y => simp only [lookO, Option.map_eq_some_iff] at hhi; obtain ⟨_, _, rfl⟩ := hhi; simp at hno
          subst e1 e2
          refine did_into hg (v := V k) (s := .asl n k none) (hexec _ _ hv ?_) (fun t' xs' _ => rfl) rfl hi'
          rw [hV, run_sliceAt_slice _ _ _ _ _ _ (by rw [hel]; exact he)]
          simp [Instr.slice, run_underlying he, Instr.sliceBounds, tm_sizeOf ok hte]
          intro _
          cases A <;> simp [add_zero]
        · simp only [Option.map_eq_some_iff] at hs
          obtain ⟨⟨l', h'⟩, hc, rfl⟩ := hs
          obtain ⟨r1, r2, r3⟩ := cut_ok (P := P) (w := w) (isSl := true) b1 b2 hc q1
          have hrun : (Instr.sliceAt t (.slice A xs.length c2) (lo.map a.eval) (hi.map a.eval) none).run P w = .ok (.slice (if c2 = l' then A else A.map (·.add (l' * u.sz))) (h' - l') (c2 - l')) w := by
            rw [run_sliceAt_slice _ _ _ _ _ _ (by rw [hel]; exact he)]
            simp [Instr.slice, run_underlying he, r1, tm_sizeOf ok hte]
          refine did_into hg (v := .slice (if c2 = l' then A else A.map (·.add (l' * u.sz))) (h' - l') (c2 - l')) (s := .asl n k (some (l', h' - l'))) (hexec _ _ (hv.trans hV) hrun) (fun t' xs' hs' => ?_) rfl hi'
          rw [← hk] at hs'
          injection hs' with z1 z2 z3
          subst z2
          cases z3
          refine ⟨by omega, A, _, c2, _, hV, rfl, ?_⟩
          rcases q4 with ⟨rfl, rfl⟩ | ⟨ad, rfl, hm⟩
          · left; exact ⟨rfl, by split <;> rfl⟩
          · right
            by_cases hcl : c2 = l'
            · exact ⟨ad, 0, rfl, by rw [if_pos hcl, add_zero], Nat.zero_le _, fun h => by omega⟩
            · exact ⟨ad, l' * u.sz, rfl, by rw [if_neg hcl]; rfl, Nat.mul_le_mul_right _ (by omega), fun _ => rfl⟩
      · cases hs
    · cases hs
  · -- a part of a row
    rename_i n k o1 len
    split at hs
    · rename_i n' u xs
      split at hs
      · rename_i hn
        obtain ⟨hn, ht⟩ := hn
        subst hn
        obtain ⟨e, he, hte, hz⟩ := tab_slice ok ht
        have hel : P.elem t = e := by simp [Program.elem, he]
        have hk := hown n k rfl
        obtain ⟨h0, A, L', c2, A', hV, hv, h8⟩ := hrep _ _ hk.symm
        have hkr := hg.rep k
        rw [← hk] at hkr
        obtain ⟨A2, c3, cs, hV2, q1, q2, q3, q4⟩ := hkr
        rw [hV] at hV2
        injection hV2 with e1 e2 e3
        subst e1 e2 e3
        simp only [Option.map_eq_some_iff] at hs
        obtain ⟨⟨l', h'⟩, hc, rfl⟩ := hs
        obtain ⟨r1, r2, r3⟩ := cut_ok (P := P) (w := w) (isSl := true) (cap := c2 - o1) b1 b2 hc (by omega)
        have hrun : (Instr.sliceAt t (.slice A' len (c2 - o1)) (lo.map a.eval) (hi.map a.eval) none).run P w = .ok (.slice (if c2 - o1 = l' then A' else A'.map (·.add (l' * u.sz))) (h' - l') (c2 - o1 - l')) w := by
          rw [run_sliceAt_slice _ _ _ _ _ _ (by rw [hel]; exact he)]
          simp [Instr.slice, run_underlying he, r1, tm_sizeOf ok hte]
        refine did_into hg (v := .slice (if c2 - o1 = l' then A' else A'.map (·.add (l' * u.sz))) (h' - l') (c2 - o1 - l')) (s := .asl n k (some (o1 + l', h' - l'))) (hexec _ _ hv hrun) (fun t' xs' hs' => ?_) rfl hi'
        rw [← hk] at hs'
        injection hs' with z1 z2 z3
        subst z2
        cases z3
        refine ⟨by omega, A, _, c2, _, hV, by rw [Nat.sub_sub], ?_⟩
        rcases h8 with ⟨rfl, rfl⟩ | ⟨ad, j, rfl, rfl, hjc, hj⟩
        · left; exact ⟨rfl, by split <;> rfl⟩
        · right
          by_cases hcl : c2 - o1 = l'
          · exact ⟨ad, j, rfl, by rw [if_pos hcl], hjc, fun h => by omega⟩
          · have hjj := hj (by omega)
            subst hjj
            refine ⟨ad, (o1 + l') * u.sz, rfl, ?_, Nat.mul_le_mul_right _ (by omega), fun _ => rfl⟩
            rw [if_neg hcl, Nat.add_mul, ← add_add]
            rfl
      · cases hs
    · cases hs
  · cases hs


/-- An object of the call's own is told as one that is only read. -/
theorem Good.freezeO (hg : Good B R0 L st V w) {s n : Nat} {t : Ty} {x : t.den} (hs : st s = .obj n t x) (hgh : s < ghost) : Good B R0 L (Tm.put st s (.rpt t x)) V w := by
  refine hg.change (fun k => k = s) rfl rfl rfl (Nat.le_refl _) (fun _ _ _ => rfl) (fun k hk => ⟨put_ne _ _ hk, rfl⟩) ?_ ?_ ?_ ?_
  · rintro hR k rfl
    have h := hg.rep k
    rw [hs] at h
    simp only [put_same]
    obtain ⟨ad, cs, hv, h1, hm⟩ := h
    refine ⟨ad, cs, hv, ⟨?_, fun k' hk' => ?_⟩, hm.block_lt, rep_mono (Nat.le_refl _) hR (fun _ _ _ => rfl) t h1, hm.lies⟩
    · rcases hg.mine k ad.block (by rw [hs, hv]; rfl) with ⟨_, ⟨_, h5⟩ | ⟨h5, _⟩⟩ | h5
      · omega
      · rw [hs] at h5; cases h5
      · exact .inr h5
    · by_cases e : k' = k
      · subst e
        simp [put_same, ownBlk] at hk'
      · rw [put_ne _ _ e] at hk'
        exact e (hg.sep _ _ _ hk' (by rw [hs, hv]; rfl))
  · rintro k b rfl h
    simp only [put_same, ownBlk] at h
    cases h
  · rintro i j b rfl rfl _ _
    rfl
  · rintro k n' s' hk rfl ha
    simp only [put_same]
    exact ⟨(fun t xs' h => by cases h), (fun t x' h => by cases h)⟩

theorem arr_rpt (ok : TabOK P tab) {R : Nat → Prop} {t : TypeId} {k : Nat} {u : Ty} {xs : List u.den} {v : Value} (hrep : SlotRep w R st V (.rpt (.arr k u) xs) v) (hk : k ≤ 1000000) (ht : ty tab t = some (.arr k u))
    {lo hi : Option Lk} {lov hiv : Option Value} (b1 : BndOK lo lov) (b2 : BndOK hi hiv) {l h : Nat} (hc : cutB lo hi (k : Int) = some (l, h)) :
    ∃ y, (Instr.sliceAt t v lov hiv none).run P w = .ok y w ∧ vrep w R (.slice u) ((xs.drop l).take (h - l)) y := by
  obtain ⟨ad, cs, rfl, h1, h2, ⟨h3, h4⟩, h5⟩ := hrep
  obtain ⟨e, he, hte, hz⟩ := tab_arr ok ht
  obtain ⟨r1, r2, r3⟩ := cut_ok (P := P) (w := w) (isSl := false) b1 b2 hc (Nat.le_refl _)
  have hlen : ((List.drop l xs).take (h - l)).length = h - l := by simp; omega
  refine ⟨.slice (some (if k = l then ad else ad.add (l * u.sz))) (h - l) (k - l), ?_, ⟨[.slice (some (if k = l then ad else ad.add (l * u.sz))) ((List.drop l xs).take (h - l)).length (k - l)], ⟨some (if k = l then ad else ad.add (l * u.sz)), k - l, rfl, ?_, ?_, ?_⟩, ?_⟩⟩
  · simp [Instr.sliceAt, Instr.sureAddr, run_underlying he, r1, tm_sizeOf ok hte]
  · rw [hlen]; omega
  · unfold maxLen; omega
  · rcases Nat.eq_zero_or_pos (h - l) with h0 | hp
    · left; exact List.eq_nil_of_length_eq_zero (by rw [hlen]; exact h0)
    · right
      have hne : k ≠ l := by omega
      refine ⟨ad.add (l * u.sz), ((cs.drop (l * u.sz)).take ((h - l) * u.sz)), by rw [if_neg hne], by rw [add_block]; exact h1, by rw [add_block]; exact h2,
        (h4.drop (fun x c hx => rep_len u hx) l).take (fun x c hx => rep_len u hx) _, lies_mid h5 _ _⟩
  · rw [hlen]; rfl

theorem did_arr (ok : TabOK P tab) (hg : Good B R0 L st V w) (hl : Link N V a) {t : TypeId} {x : Operand} {lo hi : Option Operand} {lx : Lk} {llo lhi : Option Lk} (ho : o.op = .slice t x lo hi none) (hx : look st x = some lx)
    (hlo : lookO st lo = some llo) (hhi : lookO st hi = some lhi) (hs : stepArr tab t o.dst lx llo lhi = some ups) : Did P B R0 L st V w a o ups := by
  have h := look_ok hg hl hx
  have hrep := h.rep
  have hown := h.own
  have b1 := bnd_ok hg hl hlo
  have b2 := bnd_ok hg hl hhi
  obtain ⟨sl, c⟩ := lx
  simp only at hrep hown
  have hexec : ∀ (v : Value), (Instr.sliceAt t (a.eval x) (lo.map a.eval) (hi.map a.eval) none).run P w = .ok v w → (execOp a.eval o).run P w = .ok (.value v) w := by
    intro v h
    simp only [execOp, ho]
    simp [h]
  unfold stepArr at hs
  simp only at hs
  split at hs
  · rename_i k u xs
    split at hs
    · rename_i hcond
      simp only [Option.map_eq_some_iff] at hs
      obtain ⟨⟨l', h'⟩, hc, rfl⟩ := hs
      obtain ⟨y, h1, h2⟩ := arr_rpt ok hrep hcond.1 hcond.2 b1 b2 hc
      refine ⟨y, w, .inl (hexec y h1), ?_⟩
      cases o.dst with
      | none => exact hg
      | some d => exact hg.put d _ _ rfl rfl rfl rfl rfl h2 (fun n e => by cases e)
    · cases hs
  · rename_i n s
    split at hs
    · rename_i n' k u xs
      split at hs
      · rename_i hcond
        obtain ⟨rfl, hgh, hds, hk, ht⟩ := hcond
        simp only [Option.map_eq_some_iff] at hs
        obtain ⟨⟨l', h'⟩, hc, rfl⟩ := hs
        have hks := hown n s rfl
        have hg' := hg.freezeO hks.symm hgh
        obtain ⟨ad, hV, hv⟩ := hrep.1 _ _ hks.symm
        have h00 : offs (.arr k u) [] = 0 := rfl
        rw [h00, add_zero] at hv
        have hr' := hg'.rep s
        rw [put_same, hV, ← hv] at hr'
        obtain ⟨y, h1, h2⟩ := arr_rpt ok hr' hk ht b1 b2 hc
        refine ⟨y, w, .inl (hexec y h1), ?_⟩
        rw [app_cons]
        cases hd : o.dst with
        | none => exact hg'
        | some d => exact hg'.put d _ _ rfl rfl rfl rfl rfl h2 (fun n e => by cases e)
      · cases hs
    · cases hs
  · cases hs

theorem sl_did (ok : TabOK P tab) (hg : Good B R0 L st V w) (hl : Link N V a) {t : TypeId} {x : Operand} {lo hi : Option Operand} {lx : Lk} {llo lhi : Option Lk} (ho : o.op = .slice t x lo hi none) (hx : look st x = some lx)
    (hlo : lookO st lo = some llo) (hhi : lookO st hi = some lhi) (hs : stepSl tab t o.dst lx llo lhi = some ups) : Did P B R0 L st V w a o ups := by
  unfold stepSl at hs
  split at hs
  · exact did_arr ok hg hl ho hx hlo hhi hs
  · exact did_arr ok hg hl ho hx hlo hhi hs
  · split at hs
    · rename_i s hsl
      exact did_slice ok hg hl ho hx hlo hhi hsl hs
    · cases hs
end
end Go.Tm

/- What an operation does: numbers, bytes, results' parts, conversions, lengths, what is appended. -/
set_option linter.unusedVariables false
set_option linter.unusedSimpArgs false
namespace Go.Tm

theorem byteAt_eq (s : ByteArray) (i : Nat) (h : i < s.size) : ((s[i]'h).toNat : Int) = byteAt s i := by
  have hl : i < s.data.toList.length := by rw [Array.length_toList]; exact h
  unfold byteAt
  rw [List.getD_eq_getElem?_getD, List.getElem?_eq_getElem hl, Option.getD_some]
  rfl

theorem strOf_eq (xs : List Int) : strOf xs = strOfNums xs := rfl

section
variable {P : Program} {tab : Tab} {B : World} {R0 L : Nat → Prop} {st : St} {V : Nat → Value} {w : World} {N : Env} {a : Act} {o : Oper} {ups : Ups} {m : Nat}

theorem did_bin (ok : TabOK P tab) (hg : Good B R0 L st V w) (hl : Link N V a) {op : BinOp} {xt yt : TypeId} {x y : Operand} {c1 c2 : Slot} {t u : Ty} {v : t.den} {z : u.den} {d : Dv} (ho : o.op = .binOp op xt x y yt)
    (hx : look st x = some ⟨.val t v, c1⟩) (hy : look st y = some ⟨.val u z, c2⟩) (hb : bin op ⟨t, v⟩ ⟨u, z⟩ = some d) (hty : (match t with | .prod a b => decide (ty tab xt = some (.prod a b)) && decide ((Ty.prod a b).deep < 10000) | .bool => decide (ty tab xt = some .bool) | _ => true) = true)
    (hi : into o.dst (.val d.1 d.2) = some ups) : Did P B R0 L st V w a o ups := by
  have h1 := (look_ok hg hl hx).rep
  have h2 := (look_ok hg hl hy).rep
  obtain ⟨r, hr, hv⟩ := bin_ok (P := P) (tab := tab) ok (op := op) (xt := xt) (X := x) (Y := y) (x := ⟨t, v⟩) (y := ⟨u, z⟩) h1 h2 hb
    (fun a b e => by simp only at e; subst e; simp only [Bool.and_eq_true, decide_eq_true_eq] at hty; exact hty)
    (fun e => by simp only at e; subst e; simpa using hty)
  refine did_into hg (v := r) (s := .val d.1 d.2) ?_ hv rfl hi
  simp only [execOp, ho]
  rw [Sem.run_bind, hr]
  rfl

theorem un_ok {w : World} {R : Nat → Prop} {op : UnOp} {x d : Dv} {v : Value} (hx : vrep w R x.1 x.2 v) (h : un op x = some d) : ∃ r, (Op.unary op v).run P w = .ok r w ∧ vrep w R d.1 d.2 r := by
  obtain ⟨t, xv⟩ := x
  unfold un at h
  split at h
  · rename_i k n e
    cases e
    injection h with h
    subst h
    rw [vrep_int hx]
    exact ⟨.int k _, by simp [Op.unary, Op.intArith], mk_int _ _ _ _⟩
  · rename_i k n e
    cases e
    injection h with h
    subst h
    rw [vrep_int hx]
    exact ⟨.int k _, by simp [Op.unary, Op.intBits, bits], mk_int _ _ _ _⟩
  · rename_i b e
    cases e
    injection h with h
    subst h
    rw [vrep_bool hx]
    exact ⟨.bool _, by simp [Op.unary], mk_bool _ _ _⟩
  · cases h

theorem did_un (hg : Good B R0 L st V w) (hl : Link N V a) {op : UnOp} {xt : TypeId} {x : Operand} {c1 : Slot} {t : Ty} {v : t.den} {d : Dv} (ho : o.op = .unOp op xt x) (hx : look st x = some ⟨.val t v, c1⟩) (hb : un op ⟨t, v⟩ = some d)
    (hi : into o.dst (.val d.1 d.2) = some ups) : Did P B R0 L st V w a o ups := by
  have h1 := (look_ok hg hl hx).rep
  obtain ⟨r, hr, hv⟩ := un_ok (P := P) (x := ⟨t, v⟩) h1 hb
  refine did_into hg (v := r) (s := .val d.1 d.2) ?_ hv rfl hi
  simp only [execOp, ho]
  simp [hr]

theorem did_index_str (ok : TabOK P tab) (hg : Good B R0 L st V w) (hl : Link N V a) {t : TypeId} {x i : Operand} {c : Slot} {s : ByteArray} {li : Lk} {n : Int} (ho : o.op = .index t x i) (hx : look st x = some ⟨.val .str s, c⟩) (hi' : look st i = some li)
    (ht : ty tab t = some .str) (hn : intOf? li = some n) (h0 : 0 ≤ n) (h1 : n < (s.size : Int)) (hi : into o.dst (.val (.int .u8) (byteAt s n.toNat)) = some ups) : Did P B R0 L st V w a o ups := by
  have hv := vrep_str (look_ok hg hl hx).rep
  obtain ⟨k, hk⟩ := intOf_ok hg hl hi' hn
  refine did_into hg (v := .int .u8 (byteAt s n.toNat)) (s := .val (.int .u8) (byteAt s n.toNat)) ?_ (mk_int _ _ _ _) rfl hi
  simp only [execOp, ho, hv, hk]
  have := run_index_string (P := P) w t s k n (tab_str ok ht)
  rw [dif_pos ⟨h0, h1⟩] at this
  rw [Sem.run_bind, this, byteAt_eq]
  rfl

theorem did_index_arr (ok : TabOK P tab) (hg : Good B R0 L st V w) (hl : Link N V a) {t : TypeId} {x i : Operand} {c : Slot} {k : Nat} {u : Ty} {xs : List u.den} {li : Lk} {n : Int} (ho : o.op = .index t x i) (hx : look st x = some ⟨.val (.arr k u) xs, c⟩) (hi' : look st i = some li)
    (ht : ty tab t = some (.arr k u)) (hn : intOf? li = some n) (h0 : 0 ≤ n) (h1 : n < (k : Int)) (hi : into o.dst (.val u (xs.getD n.toNat u.dflt)) = some ups) : Did P B R0 L st V w a o ups := by
  obtain ⟨cs, hr, hv⟩ := (look_ok hg hl hx).rep
  obtain ⟨q, hq⟩ := intOf_ok hg hl hi' hn
  obtain ⟨e, he, hte, hz⟩ := tab_arr ok ht
  obtain ⟨hlen, hrl⟩ := hr
  have hlt : n.toNat < xs.length := by omega
  have hget := hrl.get (fun x c hx => rep_len u hx) n.toNat _ (getD_some hlt u.dflt)
  have hp := tm_part ok hte (all := cs) (off := n.toNat * u.sz) rfl hget
  refine did_into hg (v := mkv u _) (s := .val u (xs.getD n.toNat u.dflt)) ?_ ⟨_, hget, rfl⟩ rfl hi
  have hv' : a.eval x = .agg cs.toArray := by rw [hv]; rfl
  simp [execOp, ho, Instr.index, hq, asIntOf, hv', run_underlying he, h0, h1, tm_sizeOf ok hte, hp]

theorem tup_at {w : World} {R : Nat → Prop} : ∀ {l : List Dv} {vs : List Value} {j : Nat} {d : Dv}, tupRep w R l vs → l[j]? = some d → ∃ v, vs[j]? = some v ∧ vrep w R d.1 d.2 v
  | [], _, j, d, h, hj => by simp at hj
  | x :: l, _, j, d, h, hj => by
    obtain ⟨v, r, rfl, h1, h2⟩ := h
    cases j with
    | zero => simp only [List.getElem?_cons_zero, Option.some.injEq] at hj; subst hj; exact ⟨v, rfl, h1⟩
    | succ j => simpa using tup_at h2 (by simpa using hj)

theorem did_extract (hg : Good B R0 L st V w) (hl : Link N V a) {x : Operand} {c : Slot} {l : List Dv} {j : Nat} {d : Dv} (ho : o.op = .extract x j) (hx : look st x = some ⟨.tup l, c⟩) (hj : l[j]? = some d) (hi : into o.dst (.val d.1 d.2) = some ups) :
    Did P B R0 L st V w a o ups := by
  obtain ⟨vs, hv, ht⟩ := (look_ok hg hl hx).rep
  obtain ⟨v, h1, h2⟩ := tup_at ht hj
  refine did_into hg (v := v) (s := .val d.1 d.2) ?_ h2 rfl hi
  have hv' : a.eval x = .tuple vs.toArray := hv
  simp [execOp, ho, Instr.extract, hv', h1]

theorem did_len (ok : TabOK P tab) (hg : Good B R0 L st V w) (hl : Link N V a) {x : Operand} {l : Lk} {t : TypeId} {n : Nat} (ho : o.op = .call { callee := .builtin .len, args := #[x], argTypes := #[t] }) (hx : look st x = some l)
    (hn : (∃ s c, l = ⟨.val .str s, c⟩ ∧ ty tab t = some .str ∧ n = s.size) ∨ (∃ u, ty tab t = some (.slice u) ∧ ((∃ u' xs, slc l = some ⟨u', xs⟩ ∧ n = xs.length) ∨ (l.s = .nil ∧ n = 0))) ∨ (∃ u, ty tab t = some (.arr n u)))
    (hi : into o.dst (.val (.int .i64) (n : Int)) = some ups) : Did P B R0 L st V w a o ups := by
  have h := look_ok hg hl hx
  refine did_into hg (v := .int .i64 (n : Int)) (s := .val (.int .i64) (n : Int)) ?_ (mk_int _ _ _ _) rfl hi
  simp only [execOp, ho]
  rcases hn with ⟨s, c, rfl, ht, rfl⟩ | ⟨u, ht, hn⟩ | ⟨u, ht⟩
  · have hv := vrep_str h.rep
    simp [resolve, invoke, builtin, hv, run_len_string w t o.type s (tab_str ok ht), goInt]
  · obtain ⟨e, he, _⟩ := tab_slice ok ht
    rcases hn with ⟨u', xs, hs, rfl⟩ | ⟨hs, rfl⟩
    · obtain ⟨A, c, cs, hv, _⟩ := slc_ok hg h hs
      simp [resolve, invoke, builtin, hv, Builtin.len_, run_underlying he, goInt]
    · have hv := h.rep
      rw [hs] at hv
      simp only [SlotRep] at hv
      simp [resolve, invoke, builtin, hv, Builtin.len_, run_underlying he, goInt]
  · obtain ⟨e, he, _⟩ := tab_arr ok ht
    simp [resolve, invoke, builtin, Builtin.len_, run_underlying he, goInt]

theorem bytes_rep (w : World) (R : Nat → Prop) (k : IntKind) (xs : List Int) : repList (rep w R (.int k)) xs (xs.map (Value.int k)) := by
  induction xs with
  | nil => rfl
  | cons x xs ih => exact ⟨[.int k x], _, by simp, rfl, ih⟩

theorem rep_ints {w : World} {R : Nat → Prop} {k : IntKind} : ∀ {xs : List Int} {cs : List Value}, repList (rep w R (.int k)) xs cs → cs = xs.map (Value.int k)
  | [], cs, h => by simpa [repList] using h
  | x :: xs, cs, h => by
    obtain ⟨c1, c2, rfl, h1, h2⟩ := h
    simp only [rep] at h1
    rw [h1, rep_ints h2]
    rfl

theorem more_ok (ok : TabOK P tab) (hg : Good B R0 L st V w) {l : Lk} {v : Value} (h : LkOK (RO B R0 st V) st V w l v) {u : Ty} {t2 : TypeId} {ys : List u.den} (hm : more tab u t2 l = some ys) (hu : noInt (ty tab t2) = true) :
    ∃ d2 new, P.underlying t2 = some d2 ∧ (d2 = .string ∨ ∃ e2, d2 = .slice e2) ∧ (Builtin.lenOf v).run P w = .ok ys.length w ∧ (∀ w1 : World, w1.heap = w.heap → (Builtin.firstCells u.sz ys.length v).run P w1 = .ok new.toArray w1) ∧
      new.length = ys.length * u.sz ∧ repList (rep w (RO B R0 st V) u) ys new := by
  unfold more at hm
  split at hm
  · rename_i u2 hs ht
    injection hm with hm
    subst hm
    obtain ⟨e, he, _⟩ := tab_slice ok ht
    have hv := h.rep
    rw [hs] at hv
    simp only [SlotRep] at hv
    subst hv
    exact ⟨_, [], he, .inr ⟨e, rfl⟩, by simp [Builtin.lenOf], fun w1 _ => by simp [Builtin.firstCells], by simp, rfl⟩
  · rename_i s hs ht
    unfold castTo at hm
    split at hm
    · rename_i hc
      injection hc with hc
      subst hc
      injection hm with hm
      subst hm
      have hv := h.rep
      rw [hs] at hv
      have hv := vrep_str hv
      subst hv
      have hlen : (bytesOf s).length = s.size := by rw [bytesOf, List.length_map, Array.length_toList]; rfl
      refine ⟨_, (bytesOf s).map (Value.int .u8), tab_str ok ht, .inl rfl, by rw [hlen]; simp [Builtin.lenOf], fun w1 _ => ?_, by simp [Ty.sz], bytes_rep _ _ _ _⟩
      rw [hlen]
      simp only [Builtin.firstCells, Sem.run_pure]
      congr 1
      have hx : s.extract 0 s.size = s := by simp
      rw [hx]
      apply Array.ext'
      simp [bytesOf]
    · cases hm
  · rename_i n hs ht
    rw [ht] at hu; cases hu
  · rename_i u2 ht _
    split at hm
    · rename_i u' ys' hs
      unfold castTo at hm
      split at hm
      · rename_i hc
        injection hc with hc
        subst hc
        injection hm with hm
        subst hm
        obtain ⟨e, he, _⟩ := tab_slice ok ht
        obtain ⟨A, c, cs, rfl, h1, h2, h3, h4⟩ := slc_ok hg h hs
        have hl3 := h3.length (fun x c hx => rep_len u' hx)
        refine ⟨_, cs, he, .inr ⟨e, rfl⟩, by simp [Builtin.lenOf], fun w1 hw1 => ?_, hl3, h3⟩
        rcases h4 with h4 | ⟨ad, rfl, h5⟩
        · have h40 : ys'.length = 0 := by rw [h4]; rfl
          have hcs : cs = [] := List.eq_nil_of_length_eq_zero (by rw [hl3, h40, Nat.zero_mul])
          subst hcs
          rw [h40]
          cases A with
          | none => simp [Builtin.firstCells]
          | some ad => simp [Builtin.firstCells, loadCells, loadCellsFrom]
        · exact run_firstCells_some w1 u'.sz _ ad _ _ cs hl3 (fun j v hv => (lies_move (by rw [hw1]) h5) j v hv)
      · cases hm
    · cases hm
  · cases hm

def Lost (st : St) (V : Nat → Value) (u : Ty) (A : Option Addr) : Option Nat → Prop
  | none => A = none
  | some s => (∃ n ys, st s = .own n u ys) ∧ (∀ ad, A = some ad → ownBlk (st s) (V s) = some ad.block)

theorem prior_ok (hg : Good B R0 L st V w) {l : Lk} {v : Value} (h : LkOK (RO B R0 st V) st V w l v) {u : Ty} {xs : List u.den} {s : Option Nat} (hp : prior u l = some (xs, s)) :
    ∃ A c cs, v = .slice A xs.length c ∧ xs.length ≤ c ∧ c ≤ maxLen ∧ repList (rep w (RO B R0 st V) u) xs cs ∧ ((A = none ∧ c = 0) ∨ ∃ ad, A = some ad ∧ Mem w ad (c * u.sz) cs) ∧
      Lost st V u A s := by
  obtain ⟨sl, c⟩ := l
  have hr := h.rep
  have ho := h.own
  simp only at hr ho
  unfold prior at hp
  simp only at hp
  split at hp
  · simp only [Option.some.injEq, Prod.mk.injEq] at hp
    obtain ⟨rfl, rfl⟩ := hp
    simp only [SlotRep] at hr
    exact ⟨none, 0, [], by simpa using hr, by simp, Nat.zero_le _, rfl, .inl ⟨rfl, rfl⟩, rfl⟩
  · rename_i n k n' u' ys
    split at hp
    · rename_i hn
      subst hn
      simp only [Option.map_eq_some_iff, Prod.mk.injEq] at hp
      obtain ⟨z, hz, rfl, rfl⟩ := hp
      unfold castTo at hz
      split at hz
      · rename_i hc
        injection hc with hc
        subst hc
        injection hz with hz
        subst hz
        have hk := ho n k rfl
        have hv := hr _ _ hk.symm
        have hkr := hg.rep k
        rw [← hk] at hkr
        obtain ⟨A, c, cs, hV, q1, q2, q3, q4⟩ := hkr
        refine ⟨A, c, cs, hv.trans hV, q1, q2, q3, q4, ⟨n, ys, hk.symm⟩, fun ad hA => ?_⟩
        rw [← hk, hV, hA]
        rfl
      · cases hz
    · cases hp
  · rename_i n k len n' u' ys
    split at hp
    · rename_i hn
      subst hn
      simp only [Option.map_eq_some_iff, Prod.mk.injEq] at hp
      obtain ⟨z, hz, rfl, rfl⟩ := hp
      unfold castTo at hz
      split at hz
      · rename_i hc
        injection hc with hc
        subst hc
        injection hz with hz
        subst hz
        have hk := ho n k rfl
        obtain ⟨h0, A, L', c, A', hV, hv, h8⟩ := hr _ _ hk.symm
        have hkr := hg.rep k
        rw [← hk] at hkr
        obtain ⟨A2, c2, cs, hV2, q1, q2, q3, q4⟩ := hkr
        rw [hV] at hV2
        injection hV2 with e1 e2 e3
        subst e1 e2 e3
        have hAA : A' = A := by
          rcases h8 with ⟨h8, h9⟩ | ⟨ad, j, h8, h9, hj, hj'⟩
          · rw [h8, h9]
          · rw [h8, h9]
            have : j = 0 := by
              rcases Nat.eq_zero_or_pos c with h | h
              · rw [h, Nat.zero_mul] at hj; omega
              · have := hj' h; omega
            rw [this, add_zero]
        subst hAA
        have hlen : ((ys : List u'.den).take len).length = len := by simp; omega
        refine ⟨A', c, cs.take (len * u'.sz), by rw [hlen]; exact hv, by rw [hlen]; omega, q2, q3.take (fun x c hx => rep_len u' hx) len, ?_, ⟨n, ys, hk.symm⟩, fun ad hA => ?_⟩
        · rcases q4 with q4 | ⟨ad, q4, hm⟩
          · exact .inl q4
          · exact .inr ⟨ad, q4, hm.cut _⟩
        · rw [← hk, hV, hA]
          rfl
      · cases hz
    · cases hp
  · cases hp

theorem did_append (ok : TabOK P tab) (hg : Good B R0 L st V w) (hl : Link N V a) (hf : Fresh m st) {x y : Operand} {lx ly : Lk} {t t2 : TypeId} (ho : o.op = .call { callee := .builtin .append, args := #[x, y], argTypes := #[t, t2] })
    (hx : look st x = some lx) (hy : look st y = some ly) (hi : stepAppend tab t t2 o.dst m lx ly = some ups) : Did P B R0 L st V w a o ups := by
  have h1 := look_ok hg hl hx
  have h2 := look_ok hg hl hy
  unfold stepAppend at hi
  split at hi
  · rename_i d u hd ht
    split at hi
    · rename_i ys xs s hmo hpr
      split at hi
      · rename_i hlim
        injection hi with hi
        subst hi
        obtain ⟨e, he, hte, hsz⟩ := tab_slice ok ht
        obtain ⟨bytes, hlk⟩ := ty_lk hte
        have hmx := tab_bytes ok hlk
        have hmp := Ty.mx_pos u hsz
        obtain ⟨A, c, cs, hv, p1, p2, p3, p4, p5⟩ := prior_ok hg h1 hpr
        have hcl := p3.length (fun x c hx => rep_len u hx)
        have hb : (xs.length + ys.length) * bytes ≤ 140737488355328 := Nat.le_trans (Nat.mul_le_mul_left _ hmx) hlim
        have hmax : xs.length + ys.length ≤ maxLen := by
          have := Nat.le_trans (Nat.le_mul_of_pos_right (xs.length + ys.length) hmp) hlim
          unfold maxLen
          omega
        obtain ⟨new, A', c', w', g6, r1, r2, r3, r4, r5, r6⟩ : ∃ new A' c' w', repList (rep w (RO B R0 st V) u) ys new ∧ (Builtin.append_ #[t, t2] o.type #[.slice A xs.length c, a.eval y]).run P w = .ok (.slice A' (xs.length + ys.length) c') w' ∧ xs.length + ys.length ≤ c' ∧ c' ≤ maxLen ∧
            ((A' = none ∧ c' = 0) ∨ ∃ ad, A' = some ad ∧ Mem w' ad (c' * u.sz) (cs ++ new)) ∧ But w A w' ∧ (A' = A ∨ ∃ ad, A' = some ad ∧ ad.block = w.heap.size) := by
          cases hni : noInt (ty tab t2) with
          | true =>
            obtain ⟨d2, new, g1, g2, g3, g4, g5, g6⟩ := more_ok ok hg h2 hmo hni
            have hone : ∀ v ∈ new, v.oneCell' = true := rep_cells (.arr ys.length u) (x := ys) ⟨rfl, g6⟩
            obtain ⟨A', c', w', r1, r2, r3, r4, r5, r6⟩ := tm_append ok (ty2 := o.type) he hlk hsz g1 g2 hcl p1 p2 p4 g3 g4 g5 hone hb hmax
            exact ⟨new, A', c', w', g6, r1, r2, r3, r4, r5, r6⟩
          | false =>
            have hr2 := h2.rep
            unfold more at hmo
            split at hmo
            · rename_i e1 e2; rw [e2] at hni; cases hni
            · rename_i e1 e2; rw [e2] at hni; cases hni
            · rename_i z e1 e2
              split at hmo
              · rename_i hz0
                injection hmo with hmo
                subst hmo
                rw [e1] at hr2
                have hvy := vrep_int hr2
                obtain ⟨zn, rfl⟩ : ∃ zn : Nat, z = (zn : Int) := ⟨Int.toNat z, (Int.toNat_of_nonneg hz0).symm⟩
                rw [hvy]
                simp only [Int.toNat_natCast, List.length_replicate] at hb hmax ⊢
                obtain ⟨A', c', w', r1, r2, r3, r4, r5, r6⟩ := tm_appendZ ok (ty2 := o.type) he hlk hsz (tab_int ok e2) hcl p1 p2 p4 (m := zn) hb hmax
                exact ⟨_, A', c', w', repList.replicate (rep_zero _ _ u) zn, r1, r2, r3, r4, r5, r6⟩
              · cases hmo
            · rename_i e2 _; rw [e2] at hni; cases hni
            · cases hmo
        have hrun : (execOp a.eval o).run P w = .ok (.value (.slice A' (xs.length + ys.length) c')) w' := by
          simp only [execOp, ho]
          simp [resolve, invoke, builtin, hv, r1]
        refine ⟨_, w', .inl hrun, ?_⟩
        have hnew : ∀ R', (∀ b, b < w.heap.size → RO B R0 st V b → R' b) → (∀ b, RO B R0 st V b → ∀ ad, A = some ad → ad.block ≠ b) → OwnS w' R' u (xs ++ ys) (.slice A' (xs.length + ys.length) c') := by
          intro R' hR hA
          refine ⟨A', c', cs ++ new, by simp, by simpa using r2, r3, (p3.append g6).imp (fun x c _ hx => rep_mono r5.size hR (fun b hb hRb => r5.block b hb (hA b hRb)) u hx), r4⟩
        cases s with
        | none =>
          have p5 : A = none := p5
          subst p5
          simp only [List.nil_append, putO, hd, app_cons, app_nil]
          refine hg.fresh d _ _ r5 (fun hR => hnew _ hR (fun b _ ad h => by cases h)) (fun b hb => ?_) (fresh_own hf)
          rcases r6 with r6 | ⟨ad, r6, r7⟩
          · rw [r6] at hb; cases hb
          · rw [r6] at hb
            simp only [ownBlk, Option.some.injEq] at hb
            omega
        | some s =>
          obtain ⟨⟨n, zs, hst⟩, p6⟩ := p5
          simp only [putO, hd, app_append, app_cons, app_nil]
          have hA0 : ∀ b, RO B R0 st V b → ∀ ad, A = some ad → ad.block ≠ b := fun b hb ad hA e => hb.2 s (e ▸ p6 ad hA)
          have est : ∀ k, k ≠ d → put (put st s Slot.dead) d (Slot.own m u (xs ++ ys)) k = put st s Slot.dead k := fun k hk => put_ne _ _ hk
          refine hg.change (fun k => k = d ∨ k = s) r5.os r5.tape r5.output r5.size (fun b hb hK => r5.block b hb (fun ad hA e => ?_)) (fun k hk => ?_) ?_ ?_ ?_ ?_
          · exact hK s (.inr rfl) (e ▸ p6 ad hA)
          · simp only [not_or] at hk
            rw [put_ne _ _ hk.1, put_ne _ _ hk.1, put_ne _ _ hk.2]
            exact ⟨rfl, rfl⟩
          · intro hR k hk
            by_cases hkd : k = d
            · subst hkd
              simp only [put_same]
              exact hnew _ hR hA0
            · rcases hk with rfl | rfl
              · exact absurd rfl hkd
              · rw [put_ne _ _ hkd, put_same]
                trivial
          · intro k b hk hb
            by_cases hkd : k = d
            · subst hkd
              simp only [put_same] at hb ⊢
              rcases r6 with r6 | ⟨ad, r6, r7⟩
              · subst r6
                cases A' with
                | none => cases hb
                | some ad =>
                  simp only [ownBlk, Option.some.injEq] at hb
                  subst hb
                  exact .inr ⟨s, .inr rfl, p6 ad rfl, by rw [hst]; rfl, fun h => by rw [hst] at h; cases h⟩
              · rw [r6] at hb
                simp only [ownBlk, Option.some.injEq] at hb
                left; omega
            · rcases hk with rfl | rfl
              · exact absurd rfl hkd
              · rw [put_ne _ _ hkd, put_same] at hb
                cases hb
          · intro i j b hi hj hbi hbj
            have key : ∀ k, (k = d ∨ k = s) → ownBlk (put (put st s Slot.dead) d (Slot.own m u (xs ++ ys)) k) (put V d (.slice A' (xs.length + ys.length) c') k) = some b → k = d := by
              intro k hk hb
              by_cases hkd : k = d
              · exact hkd
              · rcases hk with rfl | rfl
                · exact absurd rfl hkd
                · rw [put_ne _ _ hkd, put_same] at hb
                  cases hb
            rw [key i hi hbi, key j hj hbj]
          · intro k n' s' hk hs' ha
            by_cases hsd : s' = d
            · subst hsd
              simp only [put_same]
              obtain ⟨q1, q2⟩ := fresh_own (t := u) (xs := xs ++ ys) hf k n' ha
              exact ⟨(fun t xs' h => absurd h (q1 t xs')), (fun t x' h => absurd h (q2 t x'))⟩
            · rcases hs' with rfl | rfl
              · exact absurd rfl hsd
              · rw [put_ne _ _ hsd, put_same]
                exact ⟨(fun t xs' h => by cases h), (fun t x' h => by cases h)⟩
      · cases hi
    · cases hi
  · cases hi

end
end Go.Tm

/- What an operation does: conversions, the least and the greatest. -/
set_option linter.unusedVariables false
set_option linter.unusedSimpArgs false
namespace Go.Tm

section
variable {P : Program} {tab : Tab} {B : World} {R0 L : Nat → Prop} {st : St} {V : Nat → Value} {w : World} {N : Env} {a : Act} {o : Oper} {ups : Ups} {m : Nat}

/-- A row of the call's own changes its slot, its block is marked. -/
theorem Good.handed (hg : Good B R0 L st V w) (hf : Fresh m st) {d s n : Nat} {u : Ty} {xs : List u.den} {w' : World} {A : Option Addr} {v : Value} (hs : st s = .own n u xs) (hsd : s ≠ d) (hb : But w A w') (hA : ∀ ad, A = some ad → ownBlk (st s) (V s) = some ad.block)
    (hbl : ∀ b, ownBlk (.own m u xs) v = some b → ownBlk (st s) (V s) = some b) (hrep : (∀ b, b < w.heap.size → RO B R0 st V b → RO B R0 (Tm.put (Tm.put st s .dead) d (.own m u xs)) (Tm.put V d v) b) →
      (∀ b, RO B R0 st V b → ∀ ad, A = some ad → ad.block ≠ b) → OwnS w' (RO B R0 (Tm.put (Tm.put st s .dead) d (.own m u xs)) (Tm.put V d v)) u xs v) :
    Good B R0 L (Tm.put (Tm.put st s .dead) d (.own m u xs)) (Tm.put V d v) w' := by
  have es : (Tm.put (Tm.put st s Slot.dead) d (Slot.own m u xs)) s = .dead := by rw [put_ne _ _ hsd, put_same]
  refine hg.change (fun k => k = d ∨ k = s) hb.os hb.tape hb.output hb.size (fun b hlt hK => hb.block b hlt (fun ad hAd e => ?_)) (fun k hk => ?_) ?_ ?_ ?_ ?_
  · exact hK s (.inr rfl) (e ▸ hA ad hAd)
  · simp only [not_or] at hk
    rw [put_ne _ _ hk.1, put_ne _ _ hk.1, put_ne _ _ hk.2]
    exact ⟨rfl, rfl⟩
  · rintro hR k (rfl | rfl)
    · simp only [put_same]
      exact hrep hR (fun b hb ad hAd e => hb.2 s (e ▸ hA ad hAd))
    · rw [es]; trivial
  · rintro k b (rfl | rfl) hb
    · simp only [put_same] at hb ⊢
      exact .inr ⟨s, .inr rfl, hbl b hb, by rw [hs]; rfl, fun h => by rw [hs] at h; cases h⟩
    · rw [es] at hb; cases hb
  · rintro i j b (rfl | rfl) (rfl | rfl) h1 h2
    · rfl
    · rw [es] at h2; cases h2
    · rw [es] at h1; cases h1
    · rfl
  · rintro k n' s' hk (rfl | rfl) ha
    · simp only [put_same]
      obtain ⟨q1, q2⟩ := fresh_own (t := u) (xs := xs) hf k n' ha
      exact ⟨(fun t xs' h => absurd h (q1 t xs')), (fun t x' h => absurd h (q2 t x'))⟩
    · rw [es]
      exact ⟨(fun t xs' h => by cases h), (fun t x' h => by cases h)⟩

theorem did_convert (ok : TabOK P tab) (hg : Good B R0 L st V w) (hl : Link N V a) (hf : Fresh m st) {src dst : TypeId} {x : Operand} {l : Lk} (ho : o.op = .convert src dst x) (hx : look st x = some l)
    (hi : stepConvert tab src dst o.dst m l = some ups) : Did P B R0 L st V w a o ups := by
  have h := look_ok hg hl hx
  have hexec : ∀ (v : Value) (w' : World), (convert src dst (a.eval x)).run P w = .ok v w' → (execOp a.eval o).run P w = .ok (.value v) w' := by
    intro v w' hr
    simp only [execOp, ho]
    simp [hr]
  have hrep := h.rep
  unfold stepConvert at hi
  split at hi
  · rename_i k n hs
    rw [hs] at hrep
    have hv := vrep_int hrep
    split at hi
    · rename_i k1 k' h1 h2
      refine did_into hg (v := .int k' (k'.wrap n)) (s := .val (.int k') (k'.wrap n)) (hexec _ _ ?_) (mk_int _ _ _ _) rfl hi
      simp [hv, convert, run_underlying (tab_int ok h1), run_underlying (tab_int ok h2), Conv.intToInt]
    · cases hi
  · rename_i s hs
    rw [hs] at hrep
    have hv := vrep_str hrep
    split at hi
    · rename_i h1 h2
      refine did_into hg (v := .string s) (s := .val .str s) (hexec _ _ ?_) (mk_str _ _ _) rfl hi
      simp [hv, convert, run_underlying (tab_str ok h1), run_underlying (tab_str ok h2)]
    · rename_i h1 h2
      split at hi
      · rename_i hle
        split at hi
        · rename_i d hd
          injection hi with hi
          subst hi
          obtain ⟨e, he, hte, _⟩ := tab_slice ok h2
          have hrun := Lib.run_convert_string_bytes (P := P) w src dst e s (tab_str ok h1) he (tab_int ok hte)
          rw [← hv] at hrun
          have hlen : (bytesOf s).length = s.size := by rw [bytesOf, List.length_map, Array.length_toList]; rfl
          refine ⟨_, _, .inl (hexec _ _ hrun), ?_⟩
          simp only [putO, hd, app_cons, app_nil]
          have hbut : But w none (Lib.bytesWorld w e s) := by
            refine ⟨rfl, rfl, rfl, by rw [Lib.bytesWorld_size]; omega, fun b hb _ => Lib.bytesWorld_at_old w e s b hb⟩
          have hg1 := grownCap_ge w s.size 0 e
          have hg2 := grownCap_le_maxLen w s.size 0 e (by unfold maxLen; omega)
          have hcs : (Lib.bytesCells w e s).size = grownCap w s.size 0 e := by
            have : s.data.size = s.size := rfl
            simp [Lib.bytesCells, this]; omega
          refine hg.fresh d _ _ hbut (fun hR => ⟨some ⟨w.heap.size, 0, none⟩, grownCap w s.size 0 e, (bytesOf s).map (Value.int .u8), by rw [hlen], by rw [hlen]; exact hg1, hg2, bytes_rep _ _ _ _, .inr ⟨_, rfl, ?_⟩⟩) (fun b hb => ?_) (fresh_own hf)
          · refine ⟨rfl, _, _, _, Lib.bytesWorld_at_new w e s, by simp [Ty.sz, hcs], .inr (Nat.le_refl _), by simp [Ty.sz, hlen]; exact hg1, fun j v hj => ?_⟩
            have hjl : j < (bytesOf s).length := by
              rcases Nat.lt_or_ge j (bytesOf s).length with h | h
              · exact h
              · rw [List.getElem?_eq_none (by simpa using h)] at hj; cases hj
            rw [hlen] at hjl
            simp only [Nat.zero_add, Lib.bytesCells]
            rw [Array.getElem?_append_left (by simpa using hjl)]
            have e1 : (s.data.map fun b => Value.int .u8 (b.toNat : Int)) = ((bytesOf s).map (Value.int .u8)).toArray := by
              apply Array.ext'
              simp [bytesOf]
            rw [e1]
            simpa using hj
          · simp only [ownBlk, Option.some.injEq] at hb
            omega
        · cases hi
      · cases hi
    · cases hi
  · split at hi
    · rename_i h1 h2
      split at hi
      · rename_i xs hs
        obtain ⟨A, c, cs, hv, p1, p2, p3, p4⟩ := slc_ok hg h hs
        obtain ⟨e, he, hte, _⟩ := tab_slice ok h1
        refine did_into hg (v := .string (strOf xs)) (s := .val .str (strOf xs)) (hexec _ _ ?_) (mk_str _ _ _) rfl hi
        rw [hv, run_convert_bytes_string w src dst e A _ c he (tab_int ok hte) (tab_str ok h2)]
        cases A with
        | none =>
          have : xs = [] := by
            rcases p4 with p4 | ⟨ad, p4, _⟩
            · exact p4
            · cases p4
          subst this
          simp [Conv.bytesToString, strOf]
          rfl
        | some ad =>
          have hcs := rep_ints p3
          have hload : (loadCells ad (List.length xs)).run P w = .ok (List.map (Value.int .u8) xs).toArray w := by
            rcases p4 with p4 | ⟨ad', p4, p5⟩
            · rw [p4]; simp [loadCells, loadCellsFrom]
            · injection p4 with p4
              subst p4
              have := run_loadCells_list (P := P) w ad cs p5
              rw [hcs] at this
              simpa using this
          rw [run_bytesToString w ad _ c xs hload, foldl_push_bytes]
          simp [strOf, ByteArray.empty, ByteArray.emptyWithCapacity]
          rfl
      · cases hi
    · rename_i h1 h2
      obtain ⟨sl, cc⟩ := l
      simp only at hi hrep
      split at hi
      · rename_i n s n' xs d hd _ _
        split at hi
        · rename_i hc
          obtain ⟨hn, hsd, hne, hx0⟩ := hc
          subst hn hsd
          injection hi with hi
          subst hi
          have hk := h.own _ s rfl
          simp only at hk
          have hv := hrep _ _ hk.symm
          have hkr := hg.rep s
          rw [← hk] at hkr
          obtain ⟨A, c, cs, hV, q1, q2, q3, q4⟩ := hkr
          obtain ⟨e, he, hte, _⟩ := tab_slice ok h1
          rcases q4 with ⟨q4, q5⟩ | ⟨ad, rfl, hm⟩
          · exfalso
            apply hx0
            exact List.eq_nil_of_length_eq_zero (by omega)
          obtain ⟨r1, row, el, fz, r2, r3, r4, r5, r6⟩ := hm.out
          have hsh : w.shape? ad.block = some (el, row.size) := by simp [World.shape?, r2]
          have hrun : (convert src src (a.eval x)).run P w = .ok (.slice (some ad) (List.length xs) c) (w.freeze ⟨ad.block, row.size, none⟩ 1) := by
            rw [hv, hV]
            simp [convert, run_underlying he, run_underlying (tab_int ok hte), markStringish, hsh]
          have hblk : (w.freeze ⟨ad.block, row.size, none⟩ 1).heap[ad.block]? = some (.cells row el (if fz.1 == fz.2 then (row.size, row.size + 1) else (min fz.1 row.size, max fz.2 (row.size + 1)))) := by
            simp [World.freeze, Array.getElem?_modify, r2]
          have hbut : But w (some ad) (w.freeze ⟨ad.block, row.size, none⟩ 1) := by
            refine ⟨rfl, rfl, rfl, by simp [World.freeze], fun b hb hA => ?_⟩
            have := hA ad rfl
            simp [World.freeze, Array.getElem?_modify, this]
          refine ⟨_, _, .inl (hexec _ _ hrun), ?_⟩
          simp only [putO, hd, app_cons, app_nil]
          refine hg.handed hf hk.symm hne hbut (fun ad' e' => by injection e' with e'; subst e'; rw [← hk, hV]; rfl) (fun b hb => by rw [← hk, hV]; rw [← hb]; exact (blk_own _ _ _ _ _)) (fun hR hA => ?_)
          refine ⟨some ad, c, cs, rfl, q1, q2, q3.imp (fun x c _ hx => rep_mono hbut.size hR (fun b hb hRb => hbut.block b hb (hA b hRb)) _ hx), .inr ⟨ad, rfl, r1, row, el, _, hblk, r3, ?_, r5, r6⟩⟩
          rcases r4 with r4 | r4
          · simp [r4]
          · by_cases h00 : fz.1 = fz.2
            · simp [h00]
            · simp only [beq_iff_eq, h00, if_false]
              right
              omega
        · cases hi
      · cases hi
    · cases hi

theorem min_ok {w : World} {R : Nat → Prop} {isMin : Bool} {k : IntKind} : ∀ {ls : List Lk} {vs : List Value} {n r : Int}, ls.length = vs.length → (∀ (j : Nat) (l : Lk) (v : Value), ls[j]? = some l → vs[j]? = some v → ∀ (k' : IntKind) (b : Int), l.s = .val (.int k') b → v = .int k' b) →
    minInts isMin n ls k = some r → (vs.foldlM (if isMin then Builtin.min2 else Builtin.max2) (.int k n)).run P w = .ok (.int k r) w
  | [], [], n, r, _, _, h => by
    simp only [minInts, Option.some.injEq] at h
    subst h
    simp
  | l :: ls, v :: vs, n, r, hlen, hv, h => by
    simp only [minInts] at h
    split at h
    · rename_i k' b hs
      split at h
      · rename_i hk
        subst hk
        have e := hv 0 l v rfl rfl k b hs
        subst e
        have := min_ok (w := w) (R := R) (ls := ls) (vs := vs) (by simpa using hlen) (fun j l v h1 h2 => hv (j + 1) l v (by simpa using h1) (by simpa using h2)) h
        cases isMin with
        | true =>
          simp only [if_true] at this ⊢
          simp only [List.foldlM_cons, Sem.run_bind, Builtin.min2, Sem.run_pure, Result.andThen_ok]
          exact this
        | false =>
          simp only [Bool.false_eq_true, if_false] at this ⊢
          simp only [List.foldlM_cons, Sem.run_bind, Builtin.max2, Sem.run_pure, Result.andThen_ok]
          exact this
      · cases h
    · cases h
  | [], _ :: _, _, _, h, _, _ => by simp at h
  | _ :: _, [], _, _, h, _, _ => by simp at h

theorem looks_at (hg : Good B R0 L st V w) (hl : Link N V a) : ∀ {xs : List Operand} {ls : List Lk}, looks st xs = some ls → ls.length = (xs.map a.eval).length ∧ ∀ (j : Nat) (l : Lk) (v : Value), ls[j]? = some l → (xs.map a.eval)[j]? = some v → LkOK (RO B R0 st V) st V w l v
  | [], ls, h => by
    simp only [looks, Option.some.injEq] at h
    subst h
    exact ⟨rfl, fun j l v h => by simp at h⟩
  | x :: xs, ls, h => by
    simp only [looks] at h
    split at h
    · rename_i l ls' h1 h2
      injection h with h
      subst h
      obtain ⟨g1, g2⟩ := looks_at hg hl h2
      refine ⟨by simpa using g1, fun j l' v hj hv => ?_⟩
      cases j with
      | zero =>
        simp only [List.getElem?_cons_zero, Option.some.injEq, List.map_cons] at hj hv
        subst hj hv
        exact look_ok hg hl h1
      | succ j => exact g2 j l' v (by simpa using hj) (by simpa using hv)
    · cases h

theorem did_min (hg : Good B R0 L st V w) (hl : Link N V a) {isMin : Bool} {x : Operand} {xs : List Operand} {l : Lk} {ls : List Lk} {k : IntKind} {n r : Int} {args : Array Operand} {ts : Array TypeId}
    (ho : o.op = .call { callee := .builtin (if isMin then .min else .max), args := args, argTypes := ts }) (hargs : args.toList = x :: xs) (hx : looks st (x :: xs) = some (l :: ls)) (hs : l.s = .val (.int k) n) (hm : minInts isMin n ls k = some r)
    (hi : into o.dst (.val (.int k) r) = some ups) : Did P B R0 L st V w a o ups := by
  obtain ⟨g1, g2⟩ := looks_at hg hl hx
  have h0 := (g2 0 l (a.eval x) rfl rfl).rep
  rw [hs] at h0
  have hv := vrep_int h0
  have hfold := min_ok (P := P) (w := w) (R := fun _ => True) (isMin := isMin) (k := k) (ls := ls) (vs := xs.map a.eval) (by simpa using g1) (fun j l' v h1 h2 k' b hsb => by
    have := (g2 (j + 1) l' v (by simpa using h1) (by simpa using h2)).rep
    rw [hsb] at this
    exact vrep_int this) hm
  refine did_into hg (v := .int k r) (s := .val (.int k) r) ?_ (mk_int _ _ _ _) rfl hi
  simp only [execOp, ho]
  cases isMin with
  | true =>
    simp only [if_true] at hfold ⊢
    simp [resolve, invoke, builtin, Builtin.min_, hargs, hv, hfold]
  | false =>
    simp only [Bool.false_eq_true, if_false] at hfold ⊢
    simp [resolve, invoke, builtin, Builtin.max_, hargs, hv, hfold]

end
end Go.Tm

/- copy and clear. -/
set_option linter.unusedVariables false
set_option linter.unusedSimpArgs false
namespace Go.Tm

section
variable {P : Program} {tab : Tab} {B : World} {R0 L : Nat → Prop} {st : St} {V : Nat → Value} {w : World} {N : Env} {a : Act} {o : Oper} {ups : Ups} {m : Nat}

theorem over_len {α : Type} {xs ys : List α} {lo : Nat} (h : lo + ys.length ≤ xs.length) : (over xs ys lo).length = xs.length := by
  simp [over]; omega
theorem over_nil {α : Type} (xs : List α) (lo : Nat) : over xs [] lo = xs := by simp [over]

theorem over_store (hg : Good B R0 L st V w) {s n : Nat} {u : Ty} {xs ys : List u.den} {lo : Nat} {new : List Value} (hs : st s = .own n u xs) (hle : lo + ys.length ≤ xs.length)
    (hr : repList (rep w (RO B R0 st V) u) ys new) {ad : Addr} {l c : Nat} (hV : V s = .slice (some ad) l c) :
    ∃ w', (storeCells (ad.add (lo * u.sz)) new).run P w = .ok () w' ∧ Good B R0 L (put st s (.own n u (over xs ys lo))) V w' := by
  have hks := hg.rep s
  rw [hs] at hks
  obtain ⟨A, c2, cs, hV2, g1, g2, g3, g4⟩ := hks
  rw [hV] at hV2
  injection hV2 with e1 e2 e3
  subst e1 e2 e3
  rcases g4 with ⟨g4, _⟩ | ⟨ad2, g4, hm⟩
  · cases g4
  injection g4 with g4
  subst g4
  have hlc : cs.length = xs.length * u.sz := g3.length (fun x c hx => rep_len u hx)
  have hln : new.length = ys.length * u.sz := hr.length (fun x c hx => rep_len u hx)
  have hone : ∀ v ∈ new, v.oneCell' = true := rep_cells (.arr ys.length u) (x := ys) ⟨rfl, hr⟩
  have hcc : (lo + ys.length) * u.sz ≤ c * u.sz := Nat.mul_le_mul_right _ (by omega)
  have hcx : (lo + ys.length) * u.sz ≤ xs.length * u.sz := Nat.mul_le_mul_right _ hle
  rw [Nat.add_mul] at hcc hcx
  obtain ⟨w', r1, r2, r3⟩ := hm.storeCells (P := P) (lo * u.sz) new w cs 0 (by omega) (by omega) hone
  refine ⟨w', r1, ?_⟩
  have hol := over_len hle
  refine hg.write (ad := ad) r3 (by rw [hs, hV]; rfl) rfl (by rw [hs]; rfl) (fun v => by rw [hs]; exact blk_own _ _ _ _ _) (fun hR => ?_) ⟨fun n2 t2 x2 e => ?_, (fun _ _ _ e => by cases e)⟩
  · have hrep : repList (rep w (RO B R0 st V) u) (over xs ys lo) (ovr cs (lo * u.sz + 0) new) := by
      have h1 := g3.take (fun x c hx => rep_len u hx) lo
      have h2 := g3.drop (fun x c hx => rep_len u hx) (lo + ys.length)
      have := (h1.append hr).append h2
      rw [Nat.add_mul, ← hln] at this
      exact this
    refine ⟨some ad, c, _, by rw [hV, hol], by rw [hol]; exact g1, g2, hrep.imp (fun x c _ hx => rep_mono r3.size hR (fun b hb hRb => r3.block b hb (fun ad' e e2 => ?_)) _ hx), .inr ⟨ad, rfl, r2⟩⟩
    injection e with e
    subst e
    subst e2
    exact hRb.2 s (by rw [hs, hV]; rfl)
  · injection e with e1 e2 e3
    subst e1 e2
    cases e3
    exact ⟨xs, hs, hol.symm⟩

/-- The value of a slice of a row of the call's own. -/
theorem span_ok (hg : Good B R0 L st V w) {l : Lk} {v : Value} (h : LkOK (RO B R0 st V) st V w l v) {n s : Nat} {rg : Option (Nat × Nat)} {n' : Nat} {u : Ty} {xs : List u.den} (hs : l.s = .asl n s rg) (hc : l.c = .own n' u xs) (hn : n = n') :
    st s = .own n u xs ∧ (spanOf xs.length rg).1 + (spanOf xs.length rg).2 ≤ xs.length ∧ ∃ A c A' c', V s = .slice A xs.length c ∧ v = .slice A' (spanOf xs.length rg).2 c' ∧
      ((A = none ∧ A' = none ∧ (spanOf xs.length rg).2 = 0) ∨ ∃ ad j, A = some ad ∧ A' = some (ad.add j) ∧ (0 < (spanOf xs.length rg).2 → j = (spanOf xs.length rg).1 * u.sz)) := by
  subst hn
  have hk : st s = .own n u xs := by rw [← hc]; exact (h.own n s (by rw [hs]; rfl)).symm
  have hr := h.rep
  rw [hs] at hr
  have hks := hg.rep s
  rw [hk] at hks
  obtain ⟨A, c, cs, hV, g1, g2, g3, g4⟩ := hks
  cases rg with
  | none =>
    have hv := hr _ _ hk
    rw [hV] at hv
    refine ⟨hk, by simp [spanOf], A, c, A, c, hV, hv, ?_⟩
    rcases g4 with ⟨g4, g5⟩ | ⟨ad, g4, _⟩
    · exact .inl ⟨g4, g4, by simp only [spanOf]; omega⟩
    · exact .inr ⟨ad, 0, g4, by rw [g4, add_zero], fun _ => by simp [spanOf]⟩
  | some q =>
    obtain ⟨lo, len⟩ := q
    obtain ⟨k1, A2, L2, c2, A', hV2, hv, h8⟩ := hr _ _ hk
    rw [hV] at hV2
    injection hV2 with e1 e2 e3
    subst e1 e2 e3
    refine ⟨hk, k1, A, c, A', c - lo, hV, hv, ?_⟩
    rcases h8 with ⟨h8, h9⟩ | ⟨ad, j, h8, h9, hj, hj'⟩
    · refine .inl ⟨h8, h9, ?_⟩
      rcases g4 with ⟨g4, g5⟩ | ⟨ad, g4, _⟩
      · simp only [spanOf]; omega
      · rw [h8] at g4; cases g4
    · exact .inr ⟨ad, j, h8, h9, fun h0 => hj' (by simp only [spanOf] at h0; omega)⟩

theorem did_over (hg : Good B R0 L st V w) {l : Lk} {v : Value} (h : LkOK (RO B R0 st V) st V w l v) {n s : Nat} {rg : Option (Nat × Nat)} {n' : Nat} {u : Ty} {xs ys : List u.den} (hs : l.s = .asl n s rg) (hc : l.c = .own n' u xs) (hn : n = n')
    {new : List Value} (hle : ys.length ≤ (spanOf xs.length rg).2) (hr : repList (rep w (RO B R0 st V) u) ys new) :
    ∃ A' len c' w', v = .slice A' len c' ∧ len = (spanOf xs.length rg).2 ∧ ((match A' with | some ad => storeCells ad new | none => pure ()) : Sem Unit).run P w = .ok () w' ∧ Good B R0 L (put st s (.own n u (over xs ys (spanOf xs.length rg).1))) V w' := by
  obtain ⟨hk, k1, A, c, A', c', hV, hv, hor⟩ := span_ok hg h hs hc hn
  refine ⟨A', (spanOf xs.length rg).2, c', ?_⟩
  rcases Nat.eq_zero_or_pos ys.length with h0 | h0
  · have hy : ys = [] := List.eq_nil_of_length_eq_zero h0
    subst hy
    simp only [repList] at hr
    subst hr
    refine ⟨w, hv, rfl, ?_, ?_⟩
    · cases A' <;> simp [storeCells]
    · rw [over_nil, ← hk, put_eta]; exact hg
  · rcases hor with ⟨_, _, h2⟩ | ⟨ad, j, hA, hA', hj⟩
    · omega
    · subst hA hA'
      have hj := hj (by omega)
      subst hj
      obtain ⟨w', r1, r2⟩ := over_store (P := P) (lo := (spanOf xs.length rg).1) hg hk (by omega) hr hV
      exact ⟨w', hv, rfl, r1, r2⟩

theorem repList_take {r : Ty} {R : Nat → Prop} {ys : List r.den} {new : List Value} (h : repList (rep w R r) ys new) (k : Nat) : repList (rep w R r) (ys.take k) (new.take (k * r.sz)) := h.take (fun x c hx => rep_len r hx) k

theorem first_part (ok : TabOK P tab) (hg : Good B R0 L st V w) {l : Lk} {v : Value} (h : LkOK (RO B R0 st V) st V w l v) {u : Ty} {t2 : TypeId} {ys : List u.den} (hm : more tab u t2 l = some ys) (hu : noInt (ty tab t2) = true) (k : Nat) :
    ∃ new, (Builtin.lenOf v).run P w = .ok ys.length w ∧ (Builtin.firstCells u.sz (min ys.length k) v).run P w = .ok new.toArray w ∧ repList (rep w (RO B R0 st V) u) (ys.take k) new := by
  unfold more at hm
  split at hm
  · rename_i u2 hs ht
    injection hm with hm
    subst hm
    have hv := h.rep
    rw [hs] at hv
    simp only [SlotRep] at hv
    subst hv
    exact ⟨[], by simp [Builtin.lenOf], by simp [Builtin.firstCells], by simp [repList]⟩
  · rename_i s hs ht
    unfold castTo at hm
    split at hm
    · rename_i hc
      injection hc with hc
      subst hc
      injection hm with hm
      subst hm
      have hv := h.rep
      rw [hs] at hv
      have hv := vrep_str hv
      subst hv
      have hlen : (bytesOf s).length = s.size := by rw [bytesOf, List.length_map, Array.length_toList]; rfl
      refine ⟨((bytesOf s).take k).map (Value.int .u8), by rw [hlen]; simp [Builtin.lenOf], ?_, bytes_rep _ _ _ _⟩
      rw [hlen]
      simp only [Builtin.firstCells, Sem.run_pure]
      congr 1
      apply Array.ext'
      have e0 : s.size = s.data.toList.length := by rw [Array.length_toList]; rfl
      have e1 : (s.extract 0 (min s.size k)).data.toList = s.data.toList.take k := by
        rw [ByteArray.data_extract, Array.toList_extract, List.extract_eq_take_drop, List.drop_zero, Nat.sub_zero, Nat.min_comm, e0]
        exact List.take_eq_take_min.symm
      rw [Array.toList_map, e1]
      simp [bytesOf, List.map_take]
      rfl
    · cases hm
  · rename_i n hs ht
    rw [ht] at hu; cases hu
  · rename_i u2 ht _
    split at hm
    · rename_i u' ys' hs
      unfold castTo at hm
      split at hm
      · rename_i hc
        injection hc with hc
        subst hc
        injection hm with hm
        subst hm
        obtain ⟨A, c, cs, rfl, h1, h2, h3, h4⟩ := slc_ok hg h hs
        have hl3 := h3.length (fun x c hx => rep_len u' hx)
        have hmin : (cs.take (k * u'.sz)).length = min ys'.length k * u'.sz := by
          rw [List.length_take, hl3, ← Nat.mul_min_mul_right, Nat.min_comm]
        refine ⟨cs.take (k * u'.sz), by simp [Builtin.lenOf], ?_, repList_take h3 k⟩
        rcases h4 with h4 | ⟨ad, rfl, h5⟩
        · have h40 : ys'.length = 0 := by rw [h4]; rfl
          have hcs : cs = [] := List.eq_nil_of_length_eq_zero (by rw [hl3, h40, Nat.zero_mul])
          subst hcs
          rw [h40]
          cases A with
          | none => simp [Builtin.firstCells]
          | some ad => simp [Builtin.firstCells, loadCells, loadCellsFrom]
        · refine run_firstCells_some w u'.sz _ ad _ _ _ hmin (fun j v hv => h5 j v ?_)
          rw [List.getElem?_take] at hv
          split at hv
          · exact hv
          · cases hv
      · cases hm
    · cases hm
  · cases hm

theorem did_copy (ok : TabOK P tab) (hg : Good B R0 L st V w) (hl : Link N V a) {x y : Operand} {lx ly : Lk} {t t2 : TypeId} (ho : o.op = .call { callee := .builtin .copy, args := #[x, y], argTypes := #[t, t2] })
    (hx : look st x = some lx) (hy : look st y = some ly) (hi : stepCopy tab t t2 o.dst lx ly = some ups) : Did P B R0 L st V w a o ups := by
  have h1 := look_ok hg hl hx
  have h2 := look_ok hg hl hy
  unfold stepCopy at hi
  split at hi
  · rename_i n s rg n' u xs hs hc
    split at hi
    · rename_i hcond
      obtain ⟨hn, ht, hd, hni⟩ := hcond
      simp only [Option.map_eq_some_iff] at hi
      obtain ⟨ys, hmo, rfl⟩ := hi
      obtain ⟨e, he, hte, hsz⟩ := tab_slice ok ht
      obtain ⟨new, f1, f2, f3⟩ := first_part ok hg h2 hmo hni (spanOf xs.length rg).2
      obtain ⟨A', len, c', w', hv, hlen, r1, r2⟩ := did_over (P := P) hg h1 hs hc hn (by rw [List.length_take]; exact Nat.min_le_left _ _) f3
      refine ⟨.int .i64 ((min ys.length (spanOf xs.length rg).2 : Nat) : Int), w', .inl ?_, ?_⟩
      · rw [← hlen] at f2 ⊢
        simp only [execOp, ho]
        simp [resolve, invoke, builtin, hv, Builtin.copy_, run_underlying he, tm_sizeOf ok hte, f1, f2]
        cases A' with
        | none =>
          simp only [Sem.run_pure, Result.ok.injEq, true_and] at r1
          subst r1
          simp [goInt]
        | some ad =>
          simp only at r1
          simp [r1, goInt]
      · rw [app_cons]
        cases hdst : o.dst with
        | none => exact r2
        | some d =>
          have hne : d ≠ s := fun e => hd (by rw [hdst, e])
          exact r2.put d _ _ rfl rfl rfl rfl rfl (mk_int _ _ _ _) (fun n e => by cases e)
    · cases hi
  · cases hi

theorem did_clear (ok : TabOK P tab) (hg : Good B R0 L st V w) (hl : Link N V a) {x : Operand} {lx : Lk} {t : TypeId} (ho : o.op = .call { callee := .builtin .clear, args := #[x], argTypes := #[t] })
    (hx : look st x = some lx) (hi : stepClear tab t o.dst lx = some ups) : Did P B R0 L st V w a o ups := by
  have h1 := look_ok hg hl hx
  unfold stepClear at hi
  split at hi
  · rename_i n s rg n' u xs hs hc
    split at hi
    · rename_i hcond
      obtain ⟨hn, ht, hd⟩ := hcond
      injection hi with hi
      subst hi
      obtain ⟨e, he, hte, hsz⟩ := tab_slice ok ht
      obtain ⟨A', len, c', w', hv, hlen, r1, r2⟩ := did_over (P := P) hg h1 hs hc hn (ys := List.replicate (spanOf xs.length rg).2 u.dflt) (by simp) (repList.replicate (rep_zero w _ u) _)
      refine ⟨.tuple #[], w', .inl ?_, ?_⟩
      · have hzv := tm_zero (P := P) ok hte w
        have hzc : (Builtin.zeroCells (mkv u u.zeroV).cells len).toList = (List.replicate (spanOf xs.length rg).2 u.zeroV).flatten := by
          rw [mkv_zero, zeroCells_list _ (by rw [zeroV_len]; exact hsz), hlen]
        simp only [execOp, ho]
        cases A' with
        | none =>
          simp only [Sem.run_pure, Result.ok.injEq, true_and] at r1
          subst r1
          simp [resolve, invoke, builtin, hv, Builtin.clear_, run_underlying he]
        | some ad =>
          simp only at r1
          cases len with
          | zero =>
            have h0 : (spanOf xs.length rg).2 = 0 := hlen.symm
            rw [h0] at r1
            simp only [List.replicate_zero, List.flatten_nil, storeCells, Sem.run_pure, Result.ok.injEq, true_and] at r1
            subst r1
            simp [resolve, invoke, builtin, hv, Builtin.clear_, run_underlying he]
          | succ len =>
            simp [resolve, invoke, builtin, hv, Builtin.clear_, run_underlying he, hzv, hzc, r1]
      · rw [app_cons]
        cases hdst : o.dst with
        | none => exact r2
        | some d => exact r2.put d _ _ rfl rfl rfl rfl rfl ⟨[], rfl, rfl⟩ (fun n e => by cases e)
    · cases hi
  · cases hi
end
end Go.Tm

/- One operation, of whatever kind: what it does (step), that it does so (step_did), and which rows it names. -/
set_option linter.unusedVariables false
set_option linter.unusedSimpArgs false
namespace Go.Tm

def opnds : Op → List Operand
  | .move x | .assign x | .box _ x | .load _ x | .nilCheck x | .unOp _ _ x | .convert _ _ x | .fieldAddr _ x _ | .field _ x _ | .extract x _ | .makeInterface _ x | .panic x => [x]
  | .pick c a b => [c, a, b]
  | .build _ ps => ps.toList.map (·.2)
  | .buildSlice _ _ ps => ps.toList.map (·.2)
  | .store _ a v | .binOp _ _ a v _ | .makeSlice _ a v | .indexAddr _ a v | .index _ a v => [a, v]
  | .slice _ x none none _ => [x]
  | .slice _ x (some l) none _ => [x, l]
  | .slice _ x none (some h) _ => [x, h]
  | .slice _ x (some l) (some h) _ => [x, l, h]
  | .call c => match c.callee with
    | .value (.tmp k) => .tmp k :: c.args.toList
    | _ => c.args.toList
  | .makeFunc _ _ caps => caps.toList
  | _ => []

def fieldTys : Ty → List Ty
  | .prod a b => a :: fieldTys b
  | _ => []

section
variable (tab : Tab) (Γ : Cons)

def stepPick (d : Option Tmp) (c a b : Lk) : Option Ups :=
  match c.s with
  | .val .bool q => match a.s, b.s with
    | .val t x, .val u y => match castTo u t y with
      | some y => into d (.val t (if q = true then x else y))
      | none => none
    | _, _ => into d (if q = true then a.s else b.s)
  | _ => none

def stepBuild (t : TypeId) (idx : List Nat) (d : Option Tmp) (ls : List Lk) : Option Ups :=
  match d, ty tab t with
  | some d, some u => if u.agg = true then
      match frzAll ls (idx.map fun i => match u with | .arr _ e => some e | u => (fieldTys u)[i]?) with
      | some (ds, us) => match fillT u u.dflt (idx.zip ds) with
        | some v => some (us ++ [(d, .val u v)])
        | none => none
      | none => none
    else none
  | _, _ => none

def stepBuildSlice (t : TypeId) (len : Nat) (idx : List Nat) (d : Option Tmp) (m : Nat) (ls : List Lk) : Option Ups :=
  match d, ty tab t with
  | some d, some (.slice u) => if len * u.sz ≤ 16777216 then
      match frzAll ls (idx.map fun _ => some u) with
      | some (ds, us) => match fillT (.arr len u) (List.replicate len u.dflt) (idx.zip ds) with
        | some xs => some (us ++ [(d, .own m u xs)])
        | none => none
      | none => none
    else none
  | _, _ => none

def binTy (xt : TypeId) : Ty → Bool
  | .prod a b => decide (ty tab xt = some (.prod a b)) && decide ((Ty.prod a b).deep < 10000)
  | .bool => decide (ty tab xt = some .bool)
  | _ => true

def stepBin (op : BinOp) (xt : TypeId) (d : Option Tmp) (x y : Lk) : Option Ups :=
  match x.s, y.s with
  | .val t v, .val u z => if binTy tab xt t = true then
      match bin op ⟨t, v⟩ ⟨u, z⟩ with
      | some r => into d (.val r.1 r.2)
      | none => none
    else none
  | _, _ => none

def stepUn (op : UnOp) (d : Option Tmp) (x : Lk) : Option Ups :=
  match x.s with
  | .val t v => match un op ⟨t, v⟩ with
    | some r => into d (.val r.1 r.2)
    | none => none
  | _ => none

def stepMake (t : TypeId) (d : Option Tmp) (m : Nat) (x y : Lk) : Option Ups :=
  match d, ty tab t, intOf? x, intOf? y with
  | some d, some (.slice u), some l, some c => if 0 ≤ l ∧ l ≤ c ∧ c * (u.mx : Int) ≤ 281474976710656 then some [(d, .own m u (List.replicate l.toNat u.dflt))] else none
  | _, _, _, _ => none

def stepIndex (t : TypeId) (d : Option Tmp) (x i : Lk) : Option Ups :=
  match intOf? i with
  | some n => match x.s with
    | .val .str s => if ty tab t = some .str ∧ 0 ≤ n ∧ n < (s.size : Int) then into d (.val (.int .u8) (byteAt s n.toNat)) else none
    | .val (.arr k u) xs => if ty tab t = some (.arr k u) ∧ 0 ≤ n ∧ n < (k : Int) then into d (.val u (xs.getD n.toNat u.dflt)) else none
    | _ => none
  | none => none

def lenOf? (t : TypeId) (l : Lk) : Option Nat :=
  match ty tab t with
  | some .str => match l.s with
    | .val .str s => some s.size
    | _ => none
  | some (.slice _) => match l.s with
    | .nil => some 0
    | _ => match slc l with
      | some x => some x.2.length
      | none => none
  | some (.arr n _) => some n
  | _ => none

def stepCall (c : Call) (d : Option Tmp) (m : Nat) (ls : List Lk) : Option Ups :=
  match c.callee with
  | .builtin .len => match ls, c.args.toList, c.argTypes.toList with
    | [l], [_], [t] => match lenOf? tab t l with
      | some n => into d (.val (.int .i64) (n : Int))
      | none => none
    | _, _, _ => none
  | .builtin .append => match ls, c.args.toList, c.argTypes.toList with
    | [x, y], [_, _], [t, t2] => stepAppend tab t t2 d m x y
    | _, _, _ => none
  | .builtin .copy => match ls, c.args.toList, c.argTypes.toList with
    | [x, y], [_, _], [t, t2] => stepCopy tab t t2 d x y
    | _, _, _ => none
  | .builtin .clear => match ls, c.args.toList, c.argTypes.toList with
    | [x], [_], [t] => stepClear tab t d x
    | _, _, _ => none
  | .builtin .min => match ls with
    | l :: r => match l.s with
      | .val (.int k) n => match minInts true n r k with
        | some z => into d (.val (.int k) z)
        | none => none
      | _ => none
    | [] => none
  | .builtin .max => match ls with
    | l :: r => match l.s with
      | .val (.int k) n => match minInts false n r k with
        | some z => into d (.val (.int k) z)
        | none => none
      | _ => none
    | [] => none
  | .value (.func f) => match Γ f with
    | some con => match toArgsM (rowy con) ls (c.argTypes.toList.map (ty tab)) with
      | some as => callT con d m as
      | none => none
    | none => none
  | .value (.tmp _) => match ls with
    | l :: r => match l.s with
      | .clo f caps => match Γ f with
        | some con => match toArgs r (c.argTypes.toList.map (ty tab)) with
          | some as => callT con d m (as ++ caps.map fun x => ⟨.ptr x, none, none⟩)
          | none => none
        | none => none
      | _ => none
    | [] => none
  | _ => none

/-- What a function catches: objects of the call's own, which are only read from then on. -/
def catch1 (l : Lk) : Option (Dv × Ups) :=
  match l.s, l.c with
  | .apt n s [], .obj n' t x => if n = n' ∧ s < ghost then some (⟨t, x⟩, [(s, .rpt t x)]) else none
  | .rpt t x, _ => some (⟨t, x⟩, [])
  | _, _ => none
def catchs : List Lk → Option (List Dv × Ups)
  | [] => some ([], [])
  | l :: r => match catch1 l, catchs r with
    | some (d, u), some (ds, us) => some (d :: ds, u ++ us)
    | _, _ => none
def stepMakeFunc (fn : Fn) (first : Array Operand) (d : Option Tmp) (ls : List Lk) : Option Ups :=
  match fn, d with
  | .func f, some d => if first.size = 0 then match catchs ls with
      | some (ds, us) => some (us ++ [(d, .clo f ds)])
      | none => none
    else none
  | _, _ => none

def step (o : Oper) (m : Nat) (ls : List Lk) : Option Ups :=
  match o.op, ls with
  | .move _, [x] => into o.dst x.s
  | .assign _, [x] => stepAssign o.dst m x
  | .pick _ _ _, [c, a, b] => stepPick o.dst c a b
  | .alloc e, [] => match o.dst, ty tab e with
    | some d, some u => some [(d, .obj m u u.dflt)]
    | _, _ => none
  | .box e _, [x] => match o.dst, frz x (ty tab e) with
    | some d, some (y, u) => some (u ++ [(d, .obj m y.1 y.2)])
    | _, _ => none
  | .build t ps, ls => stepBuild tab t (ps.toList.map (·.1)) o.dst ls
  | .buildSlice t len ps, ls => stepBuildSlice tab t len (ps.toList.map (·.1)) o.dst m ls
  | .load t _, [x] => match aim x with
    | some d => if ty tab t = some d.1 then into o.dst (.val d.1 d.2) else none
    | none => none
  | .store t _ _, [x, y] => if o.dst.isNone = true then stepStore tab t x y else none
  | .nilCheck _, [x] => if (aim x).isSome = true then into o.dst x.s else none
  | .binOp op xt _ _ _, [x, y] => stepBin tab op xt o.dst x y
  | .unOp op _ _, [x] => stepUn op o.dst x
  | .convert src dst _, [x] => stepConvert tab src dst o.dst m x
  | .makeSlice t _ _, [x, y] => stepMake tab t o.dst m x y
  | .slice t _ none none none, [x] => stepSl tab t o.dst x none none
  | .slice t _ (some _) none none, [x, l] => stepSl tab t o.dst x (some l) none
  | .slice t _ none (some _) none, [x, h] => stepSl tab t o.dst x none (some h)
  | .slice t _ (some _) (some _) none, [x, l, h] => stepSl tab t o.dst x (some l) (some h)
  | .fieldAddr t _ f, [x] => match stepFieldAddr tab t x f with | some s => into o.dst s | none => none
  | .field t _ f, [x] => match x.s with
    | .val u v => if ty tab t = some u then match get u v [.fld f] with
      | some y => into o.dst (.val y.1 y.2)
      | none => none
      else none
    | _ => none
  | .indexAddr t _ _, [x, i] => match stepIndexAddr tab t x i with | some s => into o.dst s | none => none
  | .index t _ _, [x, i] => stepIndex tab t o.dst x i
  | .extract _ j, [x] => match x.s with
    | .tup l => match l[j]? with
      | some d => into o.dst (.val d.1 d.2)
      | none => none
    | _ => none
  | .makeInterface T _, [x] => match x.s with
    | .val t v => if ty tab T = some t then into o.dst (.ifc T t v) else none
    | _ => none
  | .makeFunc fn first _, ls => stepMakeFunc fn first o.dst ls
  | .call c, ls => stepCall tab Γ c o.dst m ls
  | _, _ => none
end

theorem looks_one {st : St} {x : Operand} {l : Lk} (h : looks st [x] = some [l]) : look st x = some l := by
  simp only [looks] at h
  split at h
  · rename_i l' ls h1 h2
    simp only [Option.some.injEq, List.cons.injEq] at h
    rw [← h.1]; exact h1
  · cases h
theorem looks_two {st : St} {x y : Operand} {l k : Lk} (h : looks st [x, y] = some [l, k]) : look st x = some l ∧ look st y = some k := by
  rw [looks] at h
  split at h
  · rename_i l' ls h1 h2
    simp only [Option.some.injEq, List.cons.injEq] at h
    obtain ⟨rfl, rfl⟩ := h
    exact ⟨h1, looks_one h2⟩
  · cases h
theorem looks_three {st : St} {x y z : Operand} {l k j : Lk} (h : looks st [x, y, z] = some [l, k, j]) : look st x = some l ∧ look st y = some k ∧ look st z = some j := by
  rw [looks] at h
  split at h
  · rename_i l' ls h1 h2
    simp only [Option.some.injEq, List.cons.injEq] at h
    obtain ⟨rfl, rfl⟩ := h
    exact ⟨h1, looks_two h2⟩
  · cases h

section
variable {P : Program} {tab : Tab} {Γ : Cons} {B : World} {R0 L : Nat → Prop} {st : St} {V : Nat → Value} {w : World} {N : Env} {a : Act} {o : Oper} {ups : Ups} {m : Nat} {ls : List Lk}

end
end Go.Tm

/- A function catches objects: they are only read from then on. -/
set_option linter.unusedVariables false
set_option linter.unusedSimpArgs false
namespace Go.Tm

section
variable {P : Program} {tab : Tab} {B : World} {R0 L : Nat → Prop} {st : St} {V : Nat → Value} {w : World} {N : Env} {a : Act} {o : Oper} {ups : Ups} {m : Nat}

/-- These slots are objects of the call's own, told as only read. -/
def FrzO (st : St) (us : Ups) : Prop := ∀ p ∈ us, ∃ t x, p.2 = .rpt t x ∧ p.1 < ghost ∧ ((∃ n, st p.1 = .obj n t x) ∨ st p.1 = .rpt t x)

theorem FrzO.low {us : Ups} (h : FrzO st us) : ∀ p ∈ us, owning p.2 = false ∧ aliasOf p.2 = none := fun p hp => by
  obtain ⟨t, x, e, _⟩ := h p hp
  rw [e]
  exact ⟨rfl, rfl⟩

theorem FrzO.put {us : Ups} {p : Nat × Slot} (h : FrzO st (p :: us)) : FrzO (Tm.put st p.1 p.2) us := fun q hq => by
  obtain ⟨t, x, e1, e2, e3⟩ := h q (by simp [hq])
  obtain ⟨t', x', f1, f2, f3⟩ := h p (by simp)
  refine ⟨t, x, e1, e2, ?_⟩
  by_cases e : q.1 = p.1
  · rw [e, put_same, f1]
    refine .inr ?_
    rw [e] at e3
    rcases e3 with ⟨n, e3⟩ | e3 <;> rcases f3 with ⟨n', f3⟩ | f3 <;> rw [e3] at f3 <;> first | (cases f3; done) | (injection f3; done) | skip
    · injection f3 with g1 g2 g3
      subst g2
      rw [eq_of_heq g3]
    · rw [f3]
  · rw [put_ne _ _ e]
    exact e3

theorem Good.freezeOs : ∀ {us : Ups} {st : St}, Good B R0 L st V w → FrzO st us → Good B R0 L (app us st) V w
  | [], _, hg, _ => hg
  | p :: us, st, hg, h => by
    rw [app_cons]
    refine Good.freezeOs ?_ h.put
    obtain ⟨t, x, f1, f2, f3⟩ := h p (by simp)
    rcases f3 with ⟨n, f3⟩ | f3
    · rw [f1]
      exact hg.freezeO f3 f2
    · rw [f1, ← f3, put_eta]
      exact hg

theorem FrzO.at : ∀ {us : Ups} {st : St} {s : Nat} {t : Ty} {x : t.den}, FrzO st us → (s, Slot.rpt t x) ∈ us → ((∃ n, st s = .obj n t x) ∨ st s = .rpt t x) → app us st s = .rpt t x
  | [], _, _, _, _, _, hm, _ => by simp at hm
  | p :: us, st, s, t, x, h, hm, hs => by
    rw [app_cons]
    by_cases hq : (s, Slot.rpt t x) ∈ us
    · refine FrzO.at h.put hq ?_
      by_cases e : s = p.1
      · obtain ⟨t', x', f1, f2, f3⟩ := h.put _ hq
        simp only at f1 f3
        injection f1 with g1 g2
        subst g1
        rw [eq_of_heq g2]
        exact f3
      · rw [put_ne _ _ e]; exact hs
    · have hp : (s, Slot.rpt t x) = p := (List.mem_cons.1 hm).resolve_right hq
      subst hp
      have : ∀ {us : Ups} {st : St}, FrzO st us → st s = .rpt t x → app us st s = .rpt t x := by
        intro us
        induction us with
        | nil => intro st _ h; exact h
        | cons p us ih =>
          intro st h1 h2
          rw [app_cons]
          refine ih h1.put ?_
          by_cases e : s = p.1
          · obtain ⟨t', x', f1, f2, f3⟩ := h1 p (by simp)
            rw [← e, put_same, f1]
            rw [← e, h2] at f3
            rcases f3 with ⟨n, f3⟩ | f3
            · cases f3
            · exact f3.symm
          · rw [put_ne _ _ e]; exact h2
      exact this h.put (put_same _ _ _)

theorem catch1_ok (hg : Good B R0 L st V w) {l : Lk} {v : Value} (h : LkOK (RO B R0 st V) st V w l v) {d : Dv} {u : Ups} (hc : catch1 l = some (d, u)) :
    FrzO st u ∧ ((u = [] ∧ rptRep w (RO B R0 st V) d v) ∨ ∃ s, u = [(s, .rpt d.1 d.2)] ∧ v = V s ∧ ∃ n, st s = .obj n d.1 d.2) := by
  obtain ⟨s, c⟩ := l
  have hr := h.rep
  have ho := h.own
  unfold catch1 at hc
  simp only at hr ho hc
  split at hc
  · rename_i n k n' t x
    split at hc
    · rename_i hcond
      obtain ⟨rfl, hk⟩ := hcond
      injection hc with hc
      injection hc with h1 h2
      subst h1 h2
      have hks := ho n k rfl
      obtain ⟨ad, hV, hv⟩ := hr.1 _ _ hks.symm
      have h00 : offs t [] = 0 := by cases t <;> rfl
      rw [h00, add_zero, ← hV] at hv
      refine ⟨fun p hp => ?_, .inr ⟨k, rfl, hv, n, hks.symm⟩⟩
      simp only [List.mem_singleton] at hp
      subst hp
      exact ⟨t, x, rfl, hk, .inl ⟨n, hks.symm⟩⟩
    · cases hc
  · injection hc with hc
    injection hc with h1 h2
    subst h1 h2
    exact ⟨fun p hp => by simp at hp, .inl ⟨rfl, hr⟩⟩
  · cases hc

theorem catchs_ok (hg : Good B R0 L st V w) (hl : Link N V a) : ∀ {xs : List Operand} {ls : List Lk} {ds : List Dv} {us : Ups}, looks st xs = some ls → catchs ls = some (ds, us) →
    FrzO st us ∧ ∀ vs : Ups, FrzO st vs → (∀ p ∈ us, p ∈ vs) → rptsRep w (RO B R0 (app vs st) V) ds (xs.map a.eval)
  | [], ls, ds, us, h1, h2 => by
    simp only [looks, Option.some.injEq] at h1
    subst h1
    simp only [catchs, Option.some.injEq, Prod.mk.injEq] at h2
    obtain ⟨rfl, rfl⟩ := h2
    exact ⟨fun p hp => by simp at hp, fun vs _ _ => rfl⟩
  | x :: xs, ls, ds, us, h1, h2 => by
    simp only [looks] at h1
    split at h1
    · rename_i l ls' e1 e2
      injection h1 with h1
      subst h1
      simp only [catchs] at h2
      split at h2
      · rename_i d u ds' us' e3 e4
        injection h2 with h2
        injection h2 with h3 h4
        subst h3 h4
        obtain ⟨f1, f2⟩ := catchs_ok hg hl e2 e4
        obtain ⟨g1, g2⟩ := catch1_ok hg (look_ok hg hl e1) e3
        refine ⟨fun p hp => (List.mem_append.1 hp).elim (g1 p) (f1 p), fun vs hvs hsub => ?_⟩
        refine ⟨_, _, rfl, ?_, f2 vs hvs (fun p hp => hsub p (List.mem_append_right _ hp))⟩
        have hlow : ∀ p ∈ vs, owning p.2 = false := fun p hp => (hvs.low p hp).1
        rcases g2 with ⟨_, g2⟩ | ⟨s, hu, hv, n, hs⟩
        · exact g2.mono (Nat.le_refl _) (fun b _ hb => RO_app (u := []) (fun p hp => by simp at hp) hlow b hb) (fun _ _ _ => rfl)
        · have hm : (s, Slot.rpt d.1 d.2) ∈ vs := hsub _ (List.mem_append_left _ (by rw [hu]; simp))
          have hat := hvs.at hm (.inl ⟨n, hs⟩)
          have hr := (hg.freezeOs hvs).rep s
          rw [hat] at hr
          rw [hv]
          exact hr
      · cases h2
    · cases h1

theorem did_makeFunc (hg : Good B R0 L st V w) (hl : Link N V a) {fn : Fn} {first caps : Array Operand} {ls : List Lk} (ho : o.op = .makeFunc fn first caps) (hx : looks st caps.toList = some ls)
    (hs : stepMakeFunc fn first o.dst ls = some ups) : Did P B R0 L st V w a o ups := by
  unfold stepMakeFunc at hs
  split at hs
  · rename_i f d hd
    split at hs
    · rename_i hfirst
      split at hs
      · rename_i ds us hc
        injection hs with hs
        subst hs
        obtain ⟨f1, f2⟩ := catchs_ok hg hl hx hc
        have hrep := f2 us f1 (fun p hp => hp)
        have hg' := hg.freezeOs f1
        have hcaps : caps.map a.eval = (caps.toList.map a.eval).toArray := by
          apply Array.ext'
          simp
        have hfe : first = #[] := Array.eq_empty_of_size_eq_zero hfirst
        refine ⟨.func (.func f) #[] (caps.toList.map a.eval).toArray, w, .inl ?_, ?_⟩
        · simp [execOp, ho, Instr.makeFunc, hfe]
          exact hcaps
        · rw [app_append, hd]
          exact hg'.put d _ _ rfl rfl rfl rfl rfl ⟨_, rfl, hrep⟩ (fun n e => by cases e)
      · cases hs
    · cases hs
  · cases hs

end
end Go.Tm

/- One operation does what step says (all but calls of functions). -/
set_option linter.unusedVariables false
set_option linter.unusedSimpArgs false
namespace Go.Tm

section
variable {P : Program} {tab : Tab} {Γ : Cons} {B : World} {R0 L : Nat → Prop} {st : St} {V : Nat → Value} {w : World} {N : Env} {a : Act} {o : Oper} {ups : Ups} {m : Nat} {ls : List Lk}

theorem cast_cast {u t : Ty} {x : u.den} {y : t.den} (h : castTo u t x = some y) : ∃ e : u = t, y = e ▸ x := by
  unfold castTo at h
  split at h
  · rename_i e
    injection h with h
    exact ⟨e, h.symm⟩
  · cases h

theorem pick_did (hg : Good B R0 L st V w) (hl : Link N V a) {c x y : Operand} {lc lx ly : Lk} (ho : o.op = .pick c x y) (h1 : look st c = some lc) (h2 : look st x = some lx) (h3 : look st y = some ly)
    (hs : stepPick o.dst lc lx ly = some ups) : Did P B R0 L st V w a o ups := by
  have k1 := look_ok hg hl h1
  have k2 := look_ok hg hl h2
  have k3 := look_ok hg hl h3
  have r1 := k1.rep
  have r2 := k2.rep
  have r3 := k3.rep
  unfold stepPick at hs
  split at hs
  · rename_i q hq
    rw [hq] at r1
    have hc := vrep_bool r1
    split at hs
    · rename_i t v u z e1 e2
      split at hs
      · rename_i y' hc'
        obtain ⟨rfl, rfl⟩ := cast_cast hc'
        rw [e1] at r2
        rw [e2] at r3
        refine did_pick hg ho hc r2 rfl r3 rfl ?_
        cases q <;> simpa using hs
      · cases hs
    · exact did_pick hg ho hc r2 k2.low r3 k3.low hs
  · cases hs

/-- A call of a function of the program or of the library (not of a builtin). -/
def isFn : Op → Bool
  | .call c => match c.callee with
    | .builtin _ => false
    | _ => true
  | _ => false

theorem bin_did (ok : TabOK P tab) (hg : Good B R0 L st V w) (hl : Link N V a) {op : BinOp} {xt yt : TypeId} {x y : Operand} {lx ly : Lk} (ho : o.op = .binOp op xt x y yt) (h1 : look st x = some lx) (h2 : look st y = some ly)
    (hs : stepBin tab op xt o.dst lx ly = some ups) : Did P B R0 L st V w a o ups := by
  obtain ⟨s1, c1⟩ := lx
  obtain ⟨s2, c2⟩ := ly
  cases s1 with
  | val t v => cases s2 with
    | val u z =>
      simp only [stepBin] at hs
      split at hs
      · rename_i hc
        split at hs
        · rename_i r hr
          refine did_bin ok hg hl ho h1 h2 hr ?_ hs
          cases t <;> first | rfl | exact hc
        · cases hs
      · cases hs
    | _ => simp [stepBin] at hs
  | _ => simp [stepBin] at hs

theorem index_did (ok : TabOK P tab) (hg : Good B R0 L st V w) (hl : Link N V a) {t : TypeId} {x i : Operand} {lx li : Lk} (ho : o.op = .index t x i) (h1 : look st x = some lx) (h2 : look st i = some li)
    (hs : stepIndex tab t o.dst lx li = some ups) : Did P B R0 L st V w a o ups := by
  obtain ⟨s1, c1⟩ := lx
  unfold stepIndex at hs
  simp only at hs
  split at hs
  · rename_i n hn
    split at hs
    · split at hs
      · rename_i hc
        exact did_index_str ok hg hl ho h1 h2 hc.1 hn hc.2.1 hc.2.2 hs
      · cases hs
    · split at hs
      · rename_i hc
        exact did_index_arr ok hg hl ho h1 h2 hc.1 hn hc.2.1 hc.2.2 hs
      · cases hs
    · cases hs
  · cases hs

theorem len_did (ok : TabOK P tab) (hg : Good B R0 L st V w) (hl : Link N V a) {x : Operand} {l : Lk} {t : TypeId} {n : Nat} (ho : o.op = .call { callee := .builtin .len, args := #[x], argTypes := #[t] }) (hx : look st x = some l)
    (hn : lenOf? tab t l = some n) (hi : into o.dst (.val (.int .i64) (n : Int)) = some ups) : Did P B R0 L st V w a o ups := by
  refine did_len ok hg hl ho hx ?_ hi
  obtain ⟨s, c⟩ := l
  unfold lenOf? at hn
  simp only at hn
  split at hn
  · rename_i ht
    split at hn
    · injection hn with hn
      exact .inl ⟨_, _, rfl, ht, hn.symm⟩
    · cases hn
  · rename_i u ht
    refine .inr (.inl ⟨u, ht, ?_⟩)
    split at hn
    · injection hn with hn
      exact .inr ⟨rfl, hn.symm⟩
    · split at hn
      · rename_i x hx'
        injection hn with hn
        exact .inl ⟨x.1, x.2, hx', hn.symm⟩
      · cases hn
  · rename_i k u ht
    injection hn with hn
    subst hn
    exact .inr (.inr ⟨u, ht⟩)
  · cases hn

theorem toList_one {α : Type} {xs : Array α} {x : α} (h : xs.toList = [x]) : xs = #[x] := by
  apply Array.ext'; rw [h]
theorem toList_two {α : Type} {xs : Array α} {x y : α} (h : xs.toList = [x, y]) : xs = #[x, y] := by
  apply Array.ext'; rw [h]

theorem call_did (ok : TabOK P tab) (hg : Good B R0 L st V w) (hl : Link N V a) (hf : Fresh m st) {c : Call} (ho : o.op = .call c) (hn : isFn (.call c) = false) (hx : looks st c.args.toList = some ls)
    (hs : stepCall tab Γ c o.dst m ls = some ups) : Did P B R0 L st V w a o ups := by
  obtain ⟨callee, args, ts⟩ := c
  unfold stepCall at hs
  simp only at hs hx
  split at hs
  · split at hs
    · rename_i l x t e1 e2
      rw [e1] at hx
      have := toList_one e1
      have := toList_one e2
      subst_vars
      split at hs
      · rename_i n hn'
        exact len_did ok hg hl ho (looks_one hx) hn' hs
      · cases hs
    · cases hs
  · split at hs
    · rename_i lx ly x y t t2 e1 e2
      rw [e1] at hx
      have := toList_two e1
      have := toList_two e2
      subst_vars
      exact did_append ok hg hl hf ho (looks_two hx).1 (looks_two hx).2 hs
    · cases hs
  · split at hs
    · rename_i lx ly x y t t2 e1 e2
      rw [e1] at hx
      have := toList_two e1
      have := toList_two e2
      subst_vars
      exact did_copy ok hg hl ho (looks_two hx).1 (looks_two hx).2 hs
    · cases hs
  · split at hs
    · rename_i l x t e1 e2
      rw [e1] at hx
      have := toList_one e1
      have := toList_one e2
      subst_vars
      exact did_clear ok hg hl ho (looks_one hx) hs
    · cases hs
  · split at hs
    · rename_i l r
      cases hargs : args.toList with
      | nil => rw [hargs] at hx; simp [looks] at hx
      | cons x xs =>
        rw [hargs] at hx
        split at hs
        · rename_i k n hl'
          split at hs
          · rename_i z hz
            exact did_min (isMin := true) hg hl ho hargs hx hl' hz hs
          · cases hs
        · cases hs
    · cases hs
  · split at hs
    · rename_i l r
      cases hargs : args.toList with
      | nil => rw [hargs] at hx; simp [looks] at hx
      | cons x xs =>
        rw [hargs] at hx
        split at hs
        · rename_i k n hl'
          split at hs
          · rename_i z hz
            exact did_min (isMin := false) hg hl ho hargs hx hl' hz hs
          · cases hs
        · cases hs
    · cases hs
  · simp [isFn] at hn
  · simp [isFn] at hn
  · cases hs

theorem un_did (hg : Good B R0 L st V w) (hl : Link N V a) {op : UnOp} {xt : TypeId} {x : Operand} {lx : Lk} (ho : o.op = .unOp op xt x) (h1 : look st x = some lx)
    (hs : stepUn op o.dst lx = some ups) : Did P B R0 L st V w a o ups := by
  obtain ⟨s1, c1⟩ := lx
  cases s1 with
  | val t v =>
    simp only [stepUn] at hs
    split at hs
    · rename_i r hr
      exact did_un hg hl ho h1 hr hs
    · cases hs
  | _ => simp [stepUn] at hs

theorem make_did (ok : TabOK P tab) (hg : Good B R0 L st V w) (hl : Link N V a) (hf : Fresh m st) {t : TypeId} {x y : Operand} {lx ly : Lk} (ho : o.op = .makeSlice t x y) (h1 : look st x = some lx) (h2 : look st y = some ly)
    (hs : stepMake tab t o.dst m lx ly = some ups) : Did P B R0 L st V w a o ups := by
  unfold stepMake at hs
  split at hs
  · rename_i d u l c hd ht hl' hc'
    split at hs
    · rename_i hc
      injection hs with hs
      subst hs
      exact did_makeSlice ok hg hl hf ho hd ht h1 h2 hl' hc' hc.1 hc.2.1 hc.2.2
    · cases hs
  · cases hs

theorem build_did (ok : TabOK P tab) (hg : Good B R0 L st V w) (hl : Link N V a) {t : TypeId} {ps : Array (Nat × Operand)} (ho : o.op = .build t ps) (hx : looks st (ps.toList.map (·.2)) = some ls)
    (hs : stepBuild tab t (ps.toList.map (·.1)) o.dst ls = some ups) : Did P B R0 L st V w a o ups := by
  unfold stepBuild at hs
  split at hs
  · rename_i d u hd ht
    split at hs
    · rename_i hag
      split at hs
      · rename_i ds us hz
        split at hs
        · rename_i v hv
          injection hs with hs
          subst hs
          exact did_build ok hg hl ho hd ht hag hx hz hv
        · cases hs
      · cases hs
    · cases hs
  · cases hs

theorem buildSlice_did (ok : TabOK P tab) (hg : Good B R0 L st V w) (hl : Link N V a) (hf : Fresh m st) {t : TypeId} {len : Nat} {ps : Array (Nat × Operand)} (ho : o.op = .buildSlice t len ps) (hx : looks st (ps.toList.map (·.2)) = some ls)
    (hs : stepBuildSlice tab t len (ps.toList.map (·.1)) o.dst m ls = some ups) : Did P B R0 L st V w a o ups := by
  unfold stepBuildSlice at hs
  split at hs
  · rename_i d u hd ht
    split at hs
    · rename_i hag
      split at hs
      · rename_i ds us hz
        split at hs
        · rename_i v hv
          injection hs with hs
          subst hs
          exact did_buildSlice ok hg hl hf ho hd ht hx hz hv hag
        · cases hs
      · cases hs
    · cases hs
  · cases hs

theorem step_did (ok : TabOK P tab) (hg : Good B R0 L st V w) (hl : Link N V a) (hf : Fresh m st) (hn : isFn o.op = false) (hx : looks st (opnds o.op) = some ls)
    (hs : step tab Γ o m ls = some ups) : Did P B R0 L st V w a o ups := by
  unfold step at hs
  split at hs
  · rename_i e
    rw [e] at hx
    exact did_move hg hl (.inl e) (looks_one hx) hs
  · rename_i e
    rw [e] at hx
    exact did_assign hg hl hf e (looks_one hx) hs
  · rename_i e
    rw [e] at hx
    obtain ⟨h1, h2, h3⟩ := looks_three hx
    exact pick_did hg hl e h1 h2 h3 hs
  · rename_i e
    split at hs
    · rename_i d u hd ht
      injection hs with hs
      subst hs
      exact did_alloc ok hg hf e hd ht
    · cases hs
  · rename_i e
    rw [e] at hx
    split at hs
    · rename_i d y u hd hz
      injection hs with hs
      subst hs
      exact did_box hg hl hf e hd (looks_one hx) hz
    · cases hs
  · rename_i e
    rw [e] at hx
    exact build_did ok hg hl e hx hs
  · rename_i e
    rw [e] at hx
    exact buildSlice_did ok hg hl hf e hx hs
  · rename_i e
    rw [e] at hx
    split at hs
    · rename_i d hd
      split at hs
      · rename_i ht
        exact did_load ok hg hl e (looks_one hx) hd ht hs
      · cases hs
    · cases hs
  · rename_i e
    rw [e] at hx
    split at hs
    · rename_i hd
      exact did_store ok hg hl e (by simpa using hd) (looks_two hx).1 (looks_two hx).2 hs
    · cases hs
  · rename_i e
    rw [e] at hx
    split at hs
    · rename_i hsm
      obtain ⟨d, hd⟩ := Option.isSome_iff_exists.1 hsm
      obtain ⟨ad, cs, hv, _⟩ := aim_ok hg (look_ok hg hl (looks_one hx)) hd
      exact did_move hg hl (.inr ⟨e, ad, hv⟩) (looks_one hx) hs
    · cases hs
  · rename_i e
    rw [e] at hx
    exact bin_did ok hg hl e (looks_two hx).1 (looks_two hx).2 hs
  · rename_i e
    rw [e] at hx
    exact un_did hg hl e (looks_one hx) hs
  · rename_i e
    rw [e] at hx
    exact did_convert ok hg hl hf e (looks_one hx) hs
  · rename_i e
    rw [e] at hx
    exact make_did ok hg hl hf e (looks_two hx).1 (looks_two hx).2 hs
  · rename_i e
    rw [e] at hx
    exact sl_did ok hg hl e (looks_one hx) rfl rfl hs
  · rename_i e
    rw [e] at hx
    exact sl_did ok hg hl e (looks_two hx).1 (by simp only [lookO, (looks_two hx).2]; rfl) rfl hs
  · rename_i e
    rw [e] at hx
    exact sl_did ok hg hl e (looks_two hx).1 rfl (by simp only [lookO, (looks_two hx).2]; rfl) hs
  · rename_i e
    rw [e] at hx
    obtain ⟨h1, h2, h3⟩ := looks_three hx
    exact sl_did ok hg hl e h1 (by simp only [lookO, h2]; rfl) (by simp only [lookO, h3]; rfl) hs
  · rename_i e
    rw [e] at hx
    split at hs
    · rename_i s h
      exact did_fieldAddr ok hg hl e (looks_one hx) h hs
    · cases hs
  · rename_i x e
    rw [e] at hx
    obtain ⟨s1, c1⟩ := x
    cases s1 with
    | val u v =>
      simp only at hs
      split at hs
      · rename_i ht
        split at hs
        · rename_i y hy
          exact did_field ok hg hl e (looks_one hx) ht hy hs
        · cases hs
      · cases hs
    | _ => simp at hs
  · rename_i e
    rw [e] at hx
    split at hs
    · rename_i s h
      exact did_indexAddr ok hg hl e (looks_two hx).1 (looks_two hx).2 h hs
    · cases hs
  · rename_i e
    rw [e] at hx
    exact index_did ok hg hl e (looks_two hx).1 (looks_two hx).2 hs
  · rename_i x e
    rw [e] at hx
    obtain ⟨s1, c1⟩ := x
    cases s1 with
    | tup l =>
      simp only at hs
      split at hs
      · rename_i d hd
        exact did_extract hg hl e (looks_one hx) hd hs
      · cases hs
    | _ => simp at hs
  · rename_i x e
    rw [e] at hx
    obtain ⟨s1, c1⟩ := x
    cases s1 with
    | val t v =>
      simp only at hs
      split at hs
      · rename_i ht
        exact did_iface ok hg hl e (looks_one hx) rfl ht hs
      · cases hs
    | _ => simp at hs
  · rename_i e
    rw [e] at hx
    exact did_makeFunc hg hl e hx hs
  · rename_i e
    rename_i c
    rw [e] at hx hn
    have hop : opnds (.call c) = c.args.toList := by
      obtain ⟨callee, args, ts⟩ := c
      cases callee <;> first | rfl | (simp [isFn] at hn)
    rw [hop] at hx
    exact call_did ok hg hl hf e hn hx hs
  · cases hs

end
end Go.Tm
