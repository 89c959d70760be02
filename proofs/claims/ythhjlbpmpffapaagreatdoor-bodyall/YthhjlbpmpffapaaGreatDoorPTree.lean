/- Trees, in plain terms. -/
import Derived.Test.YthhjlbpmpffapaaGreatDoorRef6a
import Derived.Test.YthhjlbpmpffapaaGreatDoorPDir
set_option maxRecDepth 10000
set_option linter.unusedSimpArgs false
set_option linter.unusedVariables false
namespace Go.Proofs.YthhjlbpmpffapaaGreatDoor
open Go.Tm Go.IntWalk

abbrev NodeT : Ty := .prod (.int .i64) (.prod (.int .i64) (.prod .str .unit))
abbrev Node : Type := Int × Int × ByteArray × Unit
abbrev TreeT : Ty := .slice NodeT
def dfltN : Node := (0, 0, no, ())
/-- The node of a number. -/
def nodeT (t : List Node) (i : Int) : Node := t.getD (i - 1).toNat dfltN
def kindT (t : List Node) (i : Int) : Int := (nodeT t i).1
def bodyT (t : List Node) (i : Int) : ByteArray := (nodeT t i).2.2.1
def namesT (t : List Node) (i : Int) : List Ent := if i < 1 ∨ (t.length : Int) < i ∨ kindT t i ≠ 2 then [] else (takeD (bodyT t i)).1
/-- Not too large. -/
def fitT (t : List Node) : Prop := t.length ≤ 1000 ∧ ∀ n ∈ t, n.2.2.1.size ≤ 4000000000
instance (t : List Node) : Decidable (fitT t) := inferInstanceAs (Decidable (_ ∧ _))
theorem fit_body {t : List Node} (h : fitT t) (i : Int) : (bodyT t i).size ≤ 4000000000 := by
  unfold bodyT nodeT
  rw [List.getD_eq_getElem?_getD]
  rcases Nat.lt_or_ge (i - 1).toNat t.length with hl | hl
  · rw [List.getElem?_eq_getElem hl]; exact h.2 _ (List.getElem_mem hl)
  · rw [List.getElem?_eq_none hl]; decide
theorem dirL_len {l : List Ent} (h : ∀ e ∈ l, okE e = true) : 3 * l.length ≤ (dirL l).length := by
  induction l with
  | nil => simp
  | cons e l ih =>
    have := ih fun x hx => h x (by simp [hx])
    have h1 := ownS_size (okE_out (h e (by simp))).1
    rw [dirL_cons, List.length_append, entL_len, List.length_cons]
    omega
theorem takeD_len (s : ByteArray) : (takeD s).1.length ≤ 40 := by
  rcases takeD_cases s with ⟨l, hl⟩ | hl <;> rw [hl]
  · obtain ⟨h1, h2⟩ := takeD_iff.1 hl
    have := dirL_len h1.1
    have := h1.2.2
    simp only; omega
  · simp
theorem namesT_len (t : List Node) (i : Int) : (namesT t i).length ≤ 40 := by
  unfold namesT
  split
  · simp
  · exact takeD_len _
theorem namesT_ok {t : List Node} {i : Int} {e : Ent} (h : e ∈ namesT t i) : okE e = true := by
  unfold namesT at h
  split at h
  · cases h
  · exact takeD_mem h
theorem namesT_size {t : List Node} {i : Int} : ∀ e ∈ namesT t i, e.1.size ≤ 6 := fun e h => (ownS_size (okE_out (namesT_ok h)).1).2
theorem findD_mem {l : List Ent} {nm : ByteArray} (h : (findD l nm).2 = true) : ∃ e ∈ l, e.1 = nm ∧ (findD l nm).1 = e.2.1 := by
  unfold findD at h ⊢
  cases hf : l.find? fun e => eqB e.1 nm with
  | none => rw [hf] at h; cases h
  | some e =>
    exact ⟨e, List.mem_of_find?_eq_some hf, eqB_iff.1 (by have := List.find?_some hf; exact this), rfl⟩
theorem findD_none {l : List Ent} {nm : ByteArray} (h : (findD l nm).2 = false) : findD l nm = (0, false) ∧ ∀ e ∈ l, e.1 ≠ nm := by
  unfold findD at h ⊢
  cases hf : l.find? fun e => eqB e.1 nm with
  | some e => rw [hf] at h; cases h
  | none =>
    refine ⟨rfl, fun e he h1 => ?_⟩
    have := List.find?_eq_none.1 hf e he
    rw [h1, eqB_refl] at this
    exact this rfl
theorem findD_range {l : List Ent} (h : ∀ e ∈ l, okE e = true) (nm : ByteArray) : (findD l nm).2 = true → 1 ≤ (findD l nm).1 ∧ (findD l nm).1 ≤ 9 := fun hf => by
  obtain ⟨e, h1, _, h2⟩ := findD_mem hf
  rw [h2]; exact (okE_out (h e h1)).2
def walkT (t : List Node) : Int → List ByteArray → Int × Int
  | at', [] => (at', 0)
  | at', s :: r => if kindT t at' ≠ 2 then (0, 5) else if (findD (namesT t at') s).2 = false ∨ (t.length : Int) < (findD (namesT t at') s).1 then (0, 2) else walkT t (findD (namesT t at') s).1 r
def walk0 (t : List Node) (l : List ByteArray) : Int × Int := if t.length < 1 then (0, 2) else walkT t 1 l
theorem walkT_range {t : List Node} : ∀ {l : List ByteArray} {i : Int}, 1 ≤ i → i ≤ t.length → (walkT t i l).2 = 0 → 1 ≤ (walkT t i l).1 ∧ (walkT t i l).1 ≤ t.length
  | [], i, h1, h2, _ => ⟨h1, h2⟩
  | s :: r, i, h1, h2, h => by
    unfold walkT at h ⊢
    split at h
    · cases h
    · split at h
      · cases h
      · rename_i k1 k2
        rw [if_neg k1, if_neg k2]
        have hf : (findD (namesT t i) s).2 = true := by
          cases e : (findD (namesT t i) s).2 with
          | true => rfl
          | false => exact absurd (.inl e) k2
        exact walkT_range (findD_range (fun e he => namesT_ok he) s hf).1 (by omega) h
theorem walk0_range {t : List Node} {l : List ByteArray} (h : (walk0 t l).2 = 0) : 1 ≤ (walk0 t l).1 ∧ (walk0 t l).1 ≤ t.length := by
  unfold walk0 at h ⊢
  split at h
  · cases h
  · rename_i h1
    rw [if_neg h1]
    exact walkT_range (by omega) (by omega) h
def findT (t : List Node) (p : ByteArray) (own : Bool) : Int × Int := if (partsS p own).2 = false then (0, 1) else walk0 t (partsS p own).1
theorem findT_range {t : List Node} {p : ByteArray} {own : Bool} (h : (findT t p own).2 = 0) : 1 ≤ (findT t p own).1 ∧ (findT t p own).1 ≤ t.length := by
  unfold findT at h ⊢
  split at h
  · cases h
  · rename_i h1
    rw [if_neg h1]
    exact walk0_range h
/-- How many of some entries name a node. -/
def cntE (l : List Ent) (ino : Int) : Nat := l.countP fun e => e.2.1 == ino
def cntT (t : List Node) (ino : Int) (n : Nat) : Nat := ((List.range n).map fun i => cntE (namesT t ((i + 1 : Nat) : Int)) ino).sum
def linksT (t : List Node) (ino : Int) : Int := if ino = 1 then 1 else (cntT t ino t.length : Int)
theorem cntT_succ (t : List Node) (ino : Int) (n : Nat) : cntT t ino (n + 1) = cntT t ino n + cntE (namesT t ((n + 1 : Nat) : Int)) ino := by
  simp [cntT, List.range_succ]
theorem cntE_le (l : List Ent) (ino : Int) : cntE l ino ≤ l.length := List.countP_le_length
theorem cntT_le (t : List Node) (ino : Int) (n : Nat) : cntT t ino n ≤ 40 * n := by
  induction n with
  | zero => simp [cntT]
  | succ n ih =>
    rw [cntT_succ]
    have h1 := cntE_le (namesT t ((n + 1 : Nat) : Int)) ino
    have h2 := namesT_len t ((n + 1 : Nat) : Int)
    omega
/-- A node is another one. -/
def setT (t : List Node) (i : Int) (n : Node) : List Node := t.set (i - 1).toNat n
theorem setT_len (t : List Node) (i : Int) (n : Node) : (setT t i n).length = t.length := by simp [setT]
def placeT (t : List Node) (l : List ByteArray) : Int × ByteArray × Int :=
  if (walk0 t l.dropLast).2 ≠ 0 then (0, no, (walk0 t l.dropLast).2) else if kindT t (walk0 t l.dropLast).1 ≠ 2 then (0, no, 5) else ((walk0 t l.dropLast).1, l.getLast?.getD no, 0)
def withBody (n : Node) (b : ByteArray) : Node := (n.1, n.2.1, b, ())
def putT (t : List Node) (dir : Int) (e : Ent) : List Node × Bool :=
  if (putD (withD (namesT t dir) e).1).2 = false then (t, false) else (setT t dir (withBody (nodeT t dir) (putD (withD (namesT t dir) e).1).1), true)
def dropT (t : List Node) (dir : Int) (nm : ByteArray) : List Node := setT t dir (withBody (nodeT t dir) (putD (lessD (namesT t dir) nm).1).1)
def newT : List Node := (2, 7, no, ()) :: List.replicate 8 dfltN
def freeT (t : List Node) : Int := match t.findIdx? fun n => n.1 == 0 with | some i => (i : Int) + 1 | none => 0
end Go.Proofs.YthhjlbpmpffapaaGreatDoor
