/- Names in a folder, in plain terms. -/
import Derived.Test.YthhjlbpmpffapaaGreatDoorRef6o
set_option maxRecDepth 10000
set_option linter.unusedSimpArgs false
set_option linter.unusedVariables false
namespace Go.Proofs.YthhjlbpmpffapaaGreatDoor
open Go.Tm Go.IntWalk

abbrev EntT : Ty := .prod .str (.prod (.int .i64) .unit)
abbrev Ent : Type := ByteArray × Int × Unit
def dfltE : Ent := (no, 0, ())
/-- May an entry be, for itself? -/
def okE (e : Ent) : Bool := ownS e.1 && decide (1 ≤ e.2.1) && decide (e.2.1 ≤ 9)
theorem okE_out {e : Ent} (h : okE e = true) : ownS e.1 = true ∧ 1 ≤ e.2.1 ∧ e.2.1 ≤ 9 := by
  simp only [okE, Bool.and_eq_true, decide_eq_true_eq] at h
  exact ⟨h.1.1, h.1.2, h.2⟩
/-- An entry's bytes. -/
def entL (e : Ent) : List UInt8 := UInt8.ofNat e.1.size :: (bl e.1 ++ [UInt8.ofNat e.2.1.toNat])
def dirL (l : List Ent) : List UInt8 := l.flatMap entL
theorem dirL_append (l m : List Ent) : dirL (l ++ m) = dirL l ++ dirL m := List.flatMap_append
theorem dirL_cons (e : Ent) (l : List Ent) : dirL (e :: l) = entL e ++ dirL l := rfl
theorem entL_len (e : Ent) : (entL e).length = e.1.size + 2 := by rw [bl_size, entL, List.length_cons, List.length_append]; rfl
/-- Do the names rise? -/
def Rises (l : List Ent) : Prop := l.Pairwise fun a b => ltB a.1 b.1 = true
def Rise1 (l : List Ent) : Prop := ∀ i, ∀ h : i + 1 < l.length, ltB (l[i]'(by omega)).1 (l[i + 1]).1 = true
theorem rises_one {l : List Ent} (h : Rise1 l) : Rises l := by
  induction l with
  | nil => exact List.Pairwise.nil
  | cons a l ih =>
    have hl : Rise1 l := fun i hi => h (i + 1) (by simpa using hi)
    have ih := ih hl
    refine List.pairwise_cons.2 ⟨?_, ih⟩
    cases l with
    | nil => intro b hb; cases hb
    | cons b l =>
      have h0 : ltB a.1 b.1 = true := h 0 (by simp)
      intro c hc
      rcases List.mem_cons.1 hc with rfl | hc
      · exact h0
      · exact ltB_trans h0 ((List.pairwise_cons.1 ih).1 c hc)
theorem one_rises {l : List Ent} (h : Rises l) : Rise1 l := fun i hi => List.pairwise_iff_getElem.1 h i (i + 1) (by omega) hi (by omega)
instance (l : List Ent) : Decidable (Rises l) := inferInstanceAs (Decidable (l.Pairwise _))
/-- May entries be a folder's? -/
def dirOK (l : List Ent) : Prop := (∀ e ∈ l, okE e = true) ∧ Rises l ∧ (dirL l).length ≤ 120
instance (l : List Ent) : Decidable (dirOK l) := inferInstanceAs (Decidable (_ ∧ _ ∧ _))
def putD (l : List Ent) : ByteArray × Bool := if dirOK l then (ofL (dirL l), true) else (no, false)
theorem putD_ok {l : List Ent} (h : dirOK l) : putD l = (ofL (dirL l), true) := if_pos h
theorem putD_no {l : List Ent} (h : ¬ dirOK l) : putD l = (no, false) := if_neg h
theorem putD_iff {l : List Ent} {s : ByteArray} : putD l = (s, true) ↔ dirOK l ∧ dirL l = bl s := by
  unfold putD
  by_cases h : dirOK l
  · rw [if_pos h, Prod.mk.injEq]
    exact ⟨fun e => ⟨h, by rw [← e.1, bl_ofL]⟩, fun e => ⟨by rw [e.2, ofL_bl], rfl⟩⟩
  · rw [if_neg h]
    exact ⟨fun e => (by injection e with _ e; cases e), fun e => absurd e.1 h⟩
/-- Entries at the front of bytes. -/
def parseD : Nat → List UInt8 → Option (List Ent)
  | _, [] => some []
  | 0, _ :: _ => none
  | k + 1, n :: r => if 6 < n.toNat ∨ r.length < n.toNat + 1 then none else
    (parseD k (r.drop (n.toNat + 1))).map fun l => (ofL (r.take n.toNat), ((r.getD n.toNat 0).toNat : Int), ()) :: l
theorem parse_ent {e : Ent} (h : okE e = true) {r : List UInt8} {k : Nat} : parseD (k + 1) (entL e ++ r) = (parseD k r).map fun l => e :: l := by
  obtain ⟨h1, h2, h3⟩ := okE_out h
  obtain ⟨h4, h5⟩ := ownS_size h1
  obtain ⟨nm, ino, u⟩ := e
  simp only at h1 h2 h3 h4 h5
  have hn : (UInt8.ofNat nm.size).toNat = nm.size := by rw [UInt8.toNat_ofNat']; omega
  have hi : (UInt8.ofNat ino.toNat).toNat = ino.toNat := by rw [UInt8.toNat_ofNat']; omega
  have hs : nm.size = (bl nm).length := bl_size nm
  show (if 6 < (UInt8.ofNat nm.size).toNat ∨ ((bl nm ++ [UInt8.ofNat ino.toNat]) ++ r).length < (UInt8.ofNat nm.size).toNat + 1 then none else (parseD k (((bl nm ++ [UInt8.ofNat ino.toNat]) ++ r).drop ((UInt8.ofNat nm.size).toNat + 1))).map fun l => (ofL (((bl nm ++ [UInt8.ofNat ino.toNat]) ++ r).take (UInt8.ofNat nm.size).toNat), ((((bl nm ++ [UInt8.ofNat ino.toNat]) ++ r).getD (UInt8.ofNat nm.size).toNat 0).toNat : Int), ()) :: l) = _
  rw [hn, if_neg (by simp only [List.length_append, List.length_cons]; omega), List.append_assoc]
  have e1 : (bl nm ++ ([UInt8.ofNat ino.toNat] ++ r)).take nm.size = bl nm := by rw [hs, List.take_left']; rfl
  have e2 : (bl nm ++ ([UInt8.ofNat ino.toNat] ++ r)).drop (nm.size + 1) = r := by
    rw [hs, ← List.append_assoc]
    exact List.drop_left' (by simp)
  have e3 : (bl nm ++ ([UInt8.ofNat ino.toNat] ++ r)).getD nm.size 0 = UInt8.ofNat ino.toNat := by
    rw [hs, List.getD_eq_getElem?_getD, List.getElem?_append_right (Nat.le_refl _), Nat.sub_self]; rfl
  rw [e1, e2, e3, ofL_bl, hi, Int.toNat_of_nonneg (by omega)]
theorem parse_dir : ∀ {l : List Ent}, (∀ e ∈ l, okE e = true) → ∀ {k : Nat}, (dirL l).length ≤ k → parseD k (dirL l) = some l
  | [], _, k, _ => by cases k <;> rfl
  | e :: l, h, k, hk => by
    rw [dirL_cons, List.length_append, entL_len] at hk
    obtain ⟨k, rfl⟩ : ∃ j, k = j + 1 := ⟨k - 1, by omega⟩
    rw [dirL_cons, parse_ent (h e (by simp)), parse_dir (fun x hx => h x (by simp [hx])) (by omega)]
    rfl
def takeD (s : ByteArray) : List Ent × Bool :=
  match parseD s.size (bl s) with
  | some l => if putD l = (s, true) then (l, true) else ([], false)
  | none => ([], false)
/-- What is taken is what is put, and nothing else is. -/
theorem takeD_iff {s : ByteArray} {l : List Ent} : takeD s = (l, true) ↔ dirOK l ∧ dirL l = bl s := by
  unfold takeD
  constructor
  · intro h
    split at h
    · split at h
      · rename_i l' hp hq
        injection h with h _
        subst h
        exact putD_iff.1 hq
      · injection h with _ h; cases h
    · injection h with _ h; cases h
  · rintro ⟨h1, h2⟩
    have hp : parseD s.size (bl s) = some l := by
      rw [← h2]; exact parse_dir h1.1 (by rw [bl_size, h2]; exact Nat.le_refl _)
    rw [hp]
    simp only
    rw [if_pos (putD_iff.2 ⟨h1, h2⟩)]
theorem takeD_cases (s : ByteArray) : (∃ l, takeD s = (l, true)) ∨ takeD s = ([], false) := by
  unfold takeD
  split
  · split
    · exact .inl ⟨_, rfl⟩
    · exact .inr rfl
  · exact .inr rfl
theorem takeD_put {l : List Ent} (h : dirOK l) : takeD (ofL (dirL l)) = (l, true) := takeD_iff.2 ⟨h, (bl_ofL _).symm⟩
theorem takeD_mem {s : ByteArray} {e : Ent} (h : e ∈ (takeD s).1) : okE e = true := by
  rcases takeD_cases s with ⟨l, hl⟩ | hl <;> rw [hl] at h
  · exact (takeD_iff.1 hl).1.1 e h
  · cases h
/-- The node of a name. -/
def findD (l : List Ent) (nm : ByteArray) : Int × Bool := match l.find? fun e => eqB e.1 nm with
  | some e => (e.2.1, true)
  | none => (0, false)
def insD (e : Ent) : List Ent → List Ent
  | [] => [e]
  | x :: r => if ltB e.1 x.1 = true then e :: x :: r else x :: insD e r
def withD (l : List Ent) (e : Ent) : List Ent × Bool := if (findD l e.1).2 = true then (l, false) else (insD e l, true)
def lessD (l : List Ent) (nm : ByteArray) : List Ent × Bool := if (findD l nm).2 = true then (l.filter fun e => !eqB e.1 nm, true) else (l, false)
end Go.Proofs.YthhjlbpmpffapaaGreatDoor
