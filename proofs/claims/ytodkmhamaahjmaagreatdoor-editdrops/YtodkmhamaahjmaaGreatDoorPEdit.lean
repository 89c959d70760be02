/- Changes of trees, in plain terms. -/
import Derived.Test.YtodkmhamaahjmaaGreatDoorG1
set_option maxRecDepth 10000
set_option linter.unusedSimpArgs false
set_option linter.unusedVariables false
namespace Go.Proofs.YtodkmhamaahjmaaGreatDoor
open Go.Tm Go.IntWalk

theorem fit_set {t : List Node} (h : fitT t) {i : Int} {n : Node} (hn : n.2.2.1.size ≤ 4000000000) : fitT (setT t i n) := by
  refine ⟨by rw [setT_len]; exact h.1, fun m hm => ?_⟩
  rcases List.mem_or_eq_of_mem_set hm with h1 | h1
  · exact h.2 m h1
  · rw [h1]; exact hn
theorem putD_size (l : List Ent) : (putD l).1.size ≤ 120 := by
  unfold putD
  split
  · rename_i h; rw [bl_size, bl_ofL]; exact h.2.2
  · decide
theorem putT_fit {t : List Node} (h : fitT t) (d : Int) (e : Ent) : fitT (putT t d e).1 := by
  unfold putT
  split
  · exact h
  · exact fit_set h (by have := putD_size (withD (namesT t d) e).1; simp only [withBody]; omega)
theorem putT_len (t : List Node) (d : Int) (e : Ent) : (putT t d e).1.length = t.length := by
  unfold putT
  split
  · rfl
  · exact setT_len _ _ _
theorem dropT_fit {t : List Node} (h : fitT t) (d : Int) (nm : ByteArray) : fitT (dropT t d nm) := fit_set h (by have := putD_size (lessD (namesT t d) nm).1; simp only [withBody]; omega)
theorem dropT_len (t : List Node) (d : Int) (nm : ByteArray) : (dropT t d nm).length = t.length := setT_len _ _ _
theorem placeT_ok {t : List Node} {l : List ByteArray} (h : (placeT t l).2.2 = 0) : 1 ≤ (placeT t l).1 ∧ (placeT t l).1 ≤ t.length ∧ kindT t (placeT t l).1 = 2 ∧ (placeT t l).2.1 = l.getLast?.getD no ∧ (placeT t l).1 = (walk0 t l.dropLast).1 ∧ (walk0 t l.dropLast).2 = 0 := by
  unfold placeT at h ⊢
  by_cases h1 : (walk0 t l.dropLast).2 ≠ 0
  · simp only [if_pos h1] at h; exact absurd h h1
  · simp only [if_neg h1] at h ⊢
    by_cases h2 : kindT t (walk0 t l.dropLast).1 ≠ 2
    · simp only [if_pos h2] at h; cases h
    · simp only [if_neg h2] at h ⊢
      have h3 : (walk0 t l.dropLast).2 = 0 := by simpa using h1
      have := walk0_range h3
      exact ⟨this.1, this.2, by simpa using h2, by trivial, by trivial, h3⟩
theorem walkT_snoc {t : List Node} {s : ByteArray} : ∀ {l : List ByteArray} {i : Int}, walkT t i (l ++ [s]) = if (walkT t i l).2 = 0 then walkT t (walkT t i l).1 [s] else walkT t i l
  | [], i => by
    have e : walkT t i [] = (i, 0) := rfl
    rw [e, if_pos rfl]; rfl
  | x :: r, i => by
    rw [List.cons_append, walkT]
    by_cases h1 : kindT t i ≠ 2
    · rw [if_pos h1, walkT, if_pos h1, if_neg (by simp)]
    · rw [if_neg h1]
      by_cases h2 : (findD (namesT t i) x).2 = false ∨ (t.length : Int) < (findD (namesT t i) x).1
      · rw [if_pos h2, walkT, if_neg h1, if_pos h2, if_neg (by simp)]
      · have e : walkT t i (x :: r) = walkT t (findD (namesT t i) x).1 r := by rw [walkT, if_neg h1, if_neg h2]
        rw [if_neg h2, walkT_snoc, e]
/-- What is found has a place. -/
theorem walk_snoc {t : List Node} {l : List ByteArray} (h : (walk0 t l).2 = 0) (hl : l ≠ []) :
    (placeT t l).2.2 = 0 ∧ (placeT t l).2.1 = l.getLast?.getD no ∧ (findD (namesT t (placeT t l).1) (placeT t l).2.1) = ((walk0 t l).1, true) := by
  obtain ⟨a, s, rfl⟩ : ∃ a s, l = a ++ [s] := ⟨l.dropLast, l.getLast hl, (List.dropLast_concat_getLast hl).symm⟩
  have hlen : ¬ t.length < 1 := fun e => by rw [walk0, if_pos e] at h; cases h
  rw [walk0, if_neg hlen, walkT_snoc] at h ⊢
  by_cases h1 : (walkT t 1 a).2 = 0
  · rw [if_pos h1] at h ⊢
    have hw : walk0 t a = walkT t 1 a := if_neg hlen
    unfold placeT
    rw [List.dropLast_concat, hw, if_neg (by rw [h1]; simp)]
    rw [walkT] at h ⊢
    by_cases h2 : kindT t (walkT t 1 a).1 ≠ 2
    · rw [if_pos h2] at h; cases h
    · rw [if_neg h2] at h ⊢
      rw [if_neg h2]
      by_cases h3 : (findD (namesT t (walkT t 1 a).1) s).2 = false ∨ (t.length : Int) < (findD (namesT t (walkT t 1 a).1) s).1
      · rw [if_pos h3] at h; cases h
      · rw [if_neg h3] at h ⊢
        have e1 : (a ++ [s]).getLast?.getD no = s := by simp
        refine ⟨rfl, rfl, ?_⟩
        simp only [e1, walkT]
        have h4 : (findD (namesT t (walkT t 1 a).1) s).2 = true := by
          cases e : (findD (namesT t (walkT t 1 a).1) s).2 with
          | true => rfl
          | false => exact absurd (.inl e) h3
        rw [← h4]
  · rw [if_neg h1] at h; exact absurd h h1
theorem find_parts {t : List Node} {p : ByteArray} {own : Bool} (h : (findT t p own).2 = 0) : (partsS p own).2 = true ∧ findT t p own = walk0 t (partsS p own).1 := by
  unfold findT at h ⊢
  cases e : (partsS p own).2 with
  | false => rw [if_pos e] at h; cases h
  | true => rw [if_neg (by simp)]; exact ⟨rfl, rfl⟩
theorem find_root {t : List Node} {p : ByteArray} {own : Bool} (h : (findT t p own).2 = 0) (h1 : (findT t p own).1 ≠ 1) : (partsS p own).1 ≠ [] := fun e => by
  obtain ⟨_, h2⟩ := find_parts h
  rw [e] at h2
  have hl : ¬ t.length < 1 := fun e' => by rw [h2, walk0, if_pos e'] at h; cases h
  rw [walk0, if_neg hl] at h2
  rw [h2] at h1
  exact h1 rfl
/-- A name of a way is short. -/
theorem parts_size {p : ByteArray} {own : Bool} {s : ByteArray} (h : s ∈ (partsS p own).1) : partOK own s = true := by
  unfold partsS at h
  split at h
  · cases h
  · split at h
    · split at h
      · rename_i hc
        simp only [List.mem_map] at h
        obtain ⟨x, hx, rfl⟩ := h
        exact hc.2 x hx
      · cases h
    · cases h
theorem parts_len (p : ByteArray) (own : Bool) : (partsS p own).1.length ≤ 8 := by
  unfold partsS
  split
  · simp
  · split
    · split
      · rename_i hc; simp only [List.length_map]; exact hc.1
      · simp
    · simp
theorem partOK_own {own : Bool} {s : ByteArray} (h : partOK own s = true) : ownS s = true := by
  unfold partOK at h
  simp only [Bool.and_eq_true] at h
  exact h.1
theorem last_mem {l : List ByteArray} (h : l ≠ []) : l.getLast?.getD no ∈ l := by
  rw [List.getLast?_eq_some_getLast h]; exact List.getLast_mem h
theorem place_name {t : List Node} {p : ByteArray} {own : Bool} (h : (placeT t (partsS p own).1).2.2 = 0) (hl : (partsS p own).1 ≠ []) : partOK own (placeT t (partsS p own).1).2.1 = true := by
  rw [(placeT_ok h).2.2.2.1]
  exact parts_size (last_mem hl)

def makeT (t : List Node) (p : ByteArray) (kind mode ino : Int) (own : Bool) : List Node × Int :=
  if (partsS p own).2 = false ∨ (kind ≠ 1 ∧ kind ≠ 2) ∨ mode < 0 ∨ 255 < mode ∨ ino < 0 ∨ 9 < ino then (t, 1) else
  if (partsS p own).1.length = 0 then (t, 3) else
  if (placeT t (partsS p own).1).2.2 ≠ 0 then (t, (placeT t (partsS p own).1).2.2) else
  if (findD (namesT t (placeT t (partsS p own).1).1) (placeT t (partsS p own).1).2.1).2 = true then (t, 3) else
  if 0 < ino ∧ ((t.length : Int) < ino ∨ kindT t ino ≠ 0) then (t, 3) else
  if (if ino = 0 then freeT t else ino) = 0 then (t, 8) else
  if (putT t (placeT t (partsS p own).1).1 ((placeT t (partsS p own).1).2.1, (if ino = 0 then freeT t else ino), ())).2 = false then (t, 8) else
  (setT (putT t (placeT t (partsS p own).1).1 ((placeT t (partsS p own).1).2.1, (if ino = 0 then freeT t else ino), ())).1 (if ino = 0 then freeT t else ino) (kind, mode, no, ()), 0)
def linkT (t : List Node) (f p : ByteArray) (own : Bool) : List Node × Int :=
  if (partsS f own).2 = false ∨ (partsS p own).2 = false then (t, 1) else
  if (findT t f own).2 ≠ 0 then (t, (findT t f own).2) else
  if kindT t (findT t f own).1 = 2 then (t, 4) else
  if (partsS p own).1.length = 0 then (t, 3) else
  if (placeT t (partsS p own).1).2.2 ≠ 0 then (t, (placeT t (partsS p own).1).2.2) else
  if (findD (namesT t (placeT t (partsS p own).1).1) (placeT t (partsS p own).1).2.1).2 = true then (t, 3) else
  if (putT t (placeT t (partsS p own).1).1 ((placeT t (partsS p own).1).2.1, (findT t f own).1, ())).2 = false then (t, 8) else
  ((putT t (placeT t (partsS p own).1).1 ((placeT t (partsS p own).1).2.1, (findT t f own).1, ())).1, 0)
def delT (t : List Node) (p : ByteArray) (own : Bool) : List Node × Int :=
  if (findT t p own).2 ≠ 0 then (t, (findT t p own).2) else
  if (findT t p own).1 = 1 then (t, 4) else
  if kindT t (findT t p own).1 = 2 ∧ bodyT t (findT t p own).1 ≠ no then (t, 6) else
  if linksT (dropT t (placeT t (partsS p own).1).1 (placeT t (partsS p own).1).2.1) (findT t p own).1 = 0 then
    (setT (dropT t (placeT t (partsS p own).1).1 (placeT t (partsS p own).1).2.1) (findT t p own).1 dfltN, 0)
  else (dropT t (placeT t (partsS p own).1).1 (placeT t (partsS p own).1).2.1, 0)
/-- Does a folder lie in another one, or is it that? -/
inductive Within (t : List Node) (d : Int) : Int → Prop
  | here : Within t d d
  | down {i : Int} {e : Ent} (he : e ∈ namesT t i) (hl : e.2.1 ≤ t.length) (hk : kindT t e.2.1 = 2) (h : Within t d e.2.1) : Within t d i
/-- Chains of folders downward are shorter than so. -/
def Deep (t : List Node) : Nat → Int → Prop
  | 0, _ => False
  | k + 1, i => ∀ e ∈ namesT t i, e.2.1 ≤ (t.length : Int) → kindT t e.2.1 = 2 → Deep t k e.2.1
noncomputable instance (t : List Node) (k : Nat) (i : Int) : Decidable (Deep t k i) := Classical.propDecidable _
/-- Chains downward end. -/
def endsT (t : List Node) (i : Int) : Prop := ∃ k, Deep t k i
def allDeep (t : List Node) : Prop := ∀ i, endsT t i
noncomputable instance (t : List Node) (i : Int) : Decidable (endsT t i) := Classical.propDecidable _
noncomputable instance (t : List Node) : Decidable (allDeep t) := Classical.propDecidable _
theorem Deep.more {t : List Node} : ∀ {k : Nat} {i : Int}, Deep t k i → Deep t (k + 1) i
  | 0, _, h => h.elim
  | k + 1, i, h => fun e he hl hk => (h e he hl hk).more
theorem Deep.le {t : List Node} {k m : Nat} {i : Int} (h : Deep t k i) (hm : k ≤ m) : Deep t m i := by
  induction m with
  | zero => obtain rfl : k = 0 := by omega
            exact h
  | succ m ih =>
    rcases Nat.lt_or_ge m k with h1 | h1
    · obtain rfl : k = m + 1 := by omega
      exact h
    · exact (ih h1).more
noncomputable instance (t : List Node) (d i : Int) : Decidable (Within t d i) := Classical.propDecidable _
noncomputable def withinB (t : List Node) (d i : Int) : Bool := decide (Within t d i)
theorem withinB_iff {t : List Node} {d i : Int} : withinB t d i = true ↔ Within t d i := by
  unfold withinB
  exact decide_eq_true_iff
theorem withinB_yes {t : List Node} {d i : Int} (h : Within t d i) : withinB t d i = true := withinB_iff.2 h
theorem of_withinB {t : List Node} {d i : Int} (h : withinB t d i = true) : Within t d i := withinB_iff.1 h
theorem withinB_no {t : List Node} {d i : Int} (h : ¬ Within t d i) : withinB t d i = false := by
  cases e : withinB t d i with
  | false => rfl
  | true => exact absurd (of_withinB e) h
theorem not_withinB {t : List Node} {d i : Int} (h : withinB t d i = false) : ¬ Within t d i := fun k => by rw [withinB_yes k] at h; cases h
noncomputable def moveT (t : List Node) (f p : ByteArray) (own : Bool) : List Node × Int :=
  if (partsS f own).2 = false ∨ (partsS p own).2 = false then (t, 1) else
  if (findT t f own).2 ≠ 0 then (t, (findT t f own).2) else
  if (findT t f own).1 = 1 then (t, 4) else
  if (partsS p own).1.length = 0 then (t, 3) else
  if (placeT t (partsS p own).1).2.2 ≠ 0 then (t, (placeT t (partsS p own).1).2.2) else
  if (placeT t (partsS f own).1).1 = (placeT t (partsS p own).1).1 ∧ (placeT t (partsS f own).1).2.1 = (placeT t (partsS p own).1).2.1 then (t, 0) else
  if (findD (namesT t (placeT t (partsS p own).1).1) (placeT t (partsS p own).1).2.1).2 = true then (t, 3) else
  if kindT t (findT t f own).1 = 2 ∧ withinB t (placeT t (partsS p own).1).1 (findT t f own).1 = true then (t, 7) else
  if (putT (dropT t (placeT t (partsS f own).1).1 (placeT t (partsS f own).1).2.1) (placeT t (partsS p own).1).1 ((placeT t (partsS p own).1).2.1, (findT t f own).1, ())).2 = false then (t, 8) else
  ((putT (dropT t (placeT t (partsS f own).1).1 (placeT t (partsS f own).1).2.1) (placeT t (partsS p own).1).1 ((placeT t (partsS p own).1).2.1, (findT t f own).1, ())).1, 0)
def fileT (t : List Node) (p : ByteArray) (own : Bool) : Int × Int :=
  if (findT t p own).2 = 0 ∧ kindT t (findT t p own).1 = 2 then (0, 4) else findT t p own
/-- A body of just so many bytes. -/
def longB (s : ByteArray) (n : Int) : ByteArray := strOf (over (List.replicate n.toNat 0) ((bytesOf s).take n.toNat) 0)
def writeN (s : ByteArray) (off : Int) (x : ByteArray) : Int := if (s.size : Int) < off + x.size then off + x.size else s.size
def writeB (s : ByteArray) (off : Int) (x : ByteArray) : ByteArray :=
  strOf (over (bytesOf (longB s (writeN s off x))) ((bytesOf x).take ((bytesOf (longB s (writeN s off x))).length - off.toNat)) off.toNat)
theorem longB_size (s : ByteArray) (n : Int) : (longB s n).size = n.toNat := by
  unfold longB
  rw [size_strOf]
  simp [over]; omega
def writeT (t : List Node) (p : ByteArray) (off : Int) (x : ByteArray) (own : Bool) : List Node × Int :=
  if (fileT t p own).2 ≠ 0 then (t, (fileT t p own).2) else
  if off < 0 then (t, 1) else
  if 120 < off ∨ 120 - off < (x.size : Int) then (t, 8) else
  if x.size = 0 then (t, 0) else
  (setT t (fileT t p own).1 (withBody (nodeT t (fileT t p own).1) (writeB (bodyT t (fileT t p own).1) off x)), 0)
def sizeT (t : List Node) (p : ByteArray) (n : Int) (own : Bool) : List Node × Int :=
  if (fileT t p own).2 ≠ 0 then (t, (fileT t p own).2) else
  if n < 0 then (t, 1) else
  if 120 < n then (t, 8) else
  (setT t (fileT t p own).1 (withBody (nodeT t (fileT t p own).1) (longB (bodyT t (fileT t p own).1) n)), 0)
def modeT (t : List Node) (p : ByteArray) (m : Int) (own : Bool) : List Node × Int :=
  if (findT t p own).2 ≠ 0 then (t, (findT t p own).2) else
  if m < 0 ∨ 255 < m then (t, 1) else
  (setT t (findT t p own).1 ((nodeT t (findT t p own).1).1, m, (nodeT t (findT t p own).1).2.2.1, ()), 0)
theorem fileT_range {t : List Node} {p : ByteArray} {own : Bool} (h : (fileT t p own).2 = 0) : 1 ≤ (fileT t p own).1 ∧ (fileT t p own).1 ≤ t.length := by
  unfold fileT at h ⊢
  split at h
  · cases h
  · rename_i h1
    rw [if_neg h1]; exact findT_range h
end Go.Proofs.YtodkmhamaahjmaaGreatDoor
