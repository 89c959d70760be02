/- Texts joined: PDir, PTree, NameOwn. -/
import Derived.Test.YtodkmhamaahjmaaGreatDoorG0
/- Names in a folder, in plain terms. -/
set_option maxRecDepth 10000
set_option linter.unusedSimpArgs false
set_option linter.unusedVariables false
namespace Go.Proofs.YtodkmhamaahjmaaGreatDoor
open Go.Tm Go.IntWalk

abbrev EntT : Ty := .prod .str (.prod (.int .i64) .unit)
abbrev Ent : Type := ByteArray × Int × Unit
def dfltE : Ent := (no, 0, ())
/-- May an entry be, for itself? -/
def okE (e : Ent) : Bool := ownS e.1 && decide (1 ≤ e.2.1) && decide (e.2.1 ≤ 9)
theorem okE_out {e : Ent} (h : okE e = true) : ownS e.1 = true ∧ 1 ≤ e.2.1 ∧ e.2.1 ≤ 9 := by
  simp only [okE, Bool.and_eq_true, decide_eq_true_eq] at h
  exact ⟨h.1.1, h.1.2, h.2⟩
/-- An entry's bytes. -/
def entL (e : Ent) : List UInt8 := UInt8.ofNat e.1.size :: (bl e.1 ++ [UInt8.ofNat e.2.1.toNat])
def dirL (l : List Ent) : List UInt8 := l.flatMap entL
theorem dirL_append (l m : List Ent) : dirL (l ++ m) = dirL l ++ dirL m := List.flatMap_append
theorem dirL_cons (e : Ent) (l : List Ent) : dirL (e :: l) = entL e ++ dirL l := rfl
theorem entL_len (e : Ent) : (entL e).length = e.1.size + 2 := by rw [bl_size, entL, List.length_cons, List.length_append]; rfl
/-- Do the names rise? -/
def Rises (l : List Ent) : Prop := l.Pairwise fun a b => ltB a.1 b.1 = true
def Rise1 (l : List Ent) : Prop := ∀ i, ∀ h : i + 1 < l.length, ltB (l[i]'(by omega)).1 (l[i + 1]).1 = true
theorem rises_one {l : List Ent} (h : Rise1 l) : Rises l := by
  induction l with
  | nil => exact List.Pairwise.nil
  | cons a l ih =>
    have hl : Rise1 l := fun i hi => h (i + 1) (by simpa using hi)
    have ih := ih hl
    refine List.pairwise_cons.2 ⟨?_, ih⟩
    cases l with
    | nil => intro b hb; cases hb
    | cons b l =>
      have h0 : ltB a.1 b.1 = true := h 0 (by simp)
      intro c hc
      rcases List.mem_cons.1 hc with rfl | hc
      · exact h0
      · exact ltB_trans h0 ((List.pairwise_cons.1 ih).1 c hc)
theorem one_rises {l : List Ent} (h : Rises l) : Rise1 l := fun i hi => List.pairwise_iff_getElem.1 h i (i + 1) (by omega) hi (by omega)
instance (l : List Ent) : Decidable (Rises l) := inferInstanceAs (Decidable (l.Pairwise _))
/-- May entries be a folder's? -/
def dirOK (l : List Ent) : Prop := (∀ e ∈ l, okE e = true) ∧ Rises l ∧ (dirL l).length ≤ 120
instance (l : List Ent) : Decidable (dirOK l) := inferInstanceAs (Decidable (_ ∧ _ ∧ _))
def putD (l : List Ent) : ByteArray × Bool := if dirOK l then (ofL (dirL l), true) else (no, false)
theorem putD_ok {l : List Ent} (h : dirOK l) : putD l = (ofL (dirL l), true) := if_pos h
theorem putD_no {l : List Ent} (h : ¬ dirOK l) : putD l = (no, false) := if_neg h
theorem putD_iff {l : List Ent} {s : ByteArray} : putD l = (s, true) ↔ dirOK l ∧ dirL l = bl s := by
  unfold putD
  by_cases h : dirOK l
  · rw [if_pos h, Prod.mk.injEq]
    exact ⟨fun e => ⟨h, by rw [← e.1, bl_ofL]⟩, fun e => ⟨by rw [e.2, ofL_bl], rfl⟩⟩
  · rw [if_neg h]
    exact ⟨fun e => (by injection e with _ e; cases e), fun e => absurd e.1 h⟩
/-- Entries at the front of bytes. -/
def parseD : Nat → List UInt8 → Option (List Ent)
  | _, [] => some []
  | 0, _ :: _ => none
  | k + 1, n :: r => if 6 < n.toNat ∨ r.length < n.toNat + 1 then none else
    (parseD k (r.drop (n.toNat + 1))).map fun l => (ofL (r.take n.toNat), ((r.getD n.toNat 0).toNat : Int), ()) :: l
theorem parse_ent {e : Ent} (h : okE e = true) {r : List UInt8} {k : Nat} : parseD (k + 1) (entL e ++ r) = (parseD k r).map fun l => e :: l := by
  obtain ⟨h1, h2, h3⟩ := okE_out h
  obtain ⟨h4, h5⟩ := ownS_size h1
  obtain ⟨nm, ino, u⟩ := e
  simp only at h1 h2 h3 h4 h5
  have hn : (UInt8.ofNat nm.size).toNat = nm.size := by rw [UInt8.toNat_ofNat']; omega
  have hi : (UInt8.ofNat ino.toNat).toNat = ino.toNat := by rw [UInt8.toNat_ofNat']; omega
  have hs : nm.size = (bl nm).length := bl_size nm
  show (if 6 < (UInt8.ofNat nm.size).toNat ∨ ((bl nm ++ [UInt8.ofNat ino.toNat]) ++ r).length < (UInt8.ofNat nm.size).toNat + 1 then none else (parseD k (((bl nm ++ [UInt8.ofNat ino.toNat]) ++ r).drop ((UInt8.ofNat nm.size).toNat + 1))).map fun l => (ofL (((bl nm ++ [UInt8.ofNat ino.toNat]) ++ r).take (UInt8.ofNat nm.size).toNat), ((((bl nm ++ [UInt8.ofNat ino.toNat]) ++ r).getD (UInt8.ofNat nm.size).toNat 0).toNat : Int), ()) :: l) = _
  rw [hn, if_neg (by simp only [List.length_append, List.length_cons]; omega), List.append_assoc]
  have e1 : (bl nm ++ ([UInt8.ofNat ino.toNat] ++ r)).take nm.size = bl nm := by rw [hs, List.take_left']; rfl
  have e2 : (bl nm ++ ([UInt8.ofNat ino.toNat] ++ r)).drop (nm.size + 1) = r := by
    rw [hs, ← List.append_assoc]
    exact List.drop_left' (by simp)
  have e3 : (bl nm ++ ([UInt8.ofNat ino.toNat] ++ r)).getD nm.size 0 = UInt8.ofNat ino.toNat := by
    rw [hs, List.getD_eq_getElem?_getD, List.getElem?_append_right (Nat.le_refl _), Nat.sub_self]; rfl
  rw [e1, e2, e3, ofL_bl, hi, Int.toNat_of_nonneg (by omega)]
theorem parse_dir : ∀ {l : List Ent}, (∀ e ∈ l, okE e = true) → ∀ {k : Nat}, (dirL l).length ≤ k → parseD k (dirL l) = some l
  | [], _, k, _ => by cases k <;> rfl
  | e :: l, h, k, hk => by
    rw [dirL_cons, List.length_append, entL_len] at hk
    obtain ⟨k, rfl⟩ : ∃ j, k = j + 1 := ⟨k - 1, by omega⟩
    rw [dirL_cons, parse_ent (h e (by simp)), parse_dir (fun x hx => h x (by simp [hx])) (by omega)]
    rfl
def takeD (s : ByteArray) : List Ent × Bool :=
  match parseD s.size (bl s) with
  | some l => if putD l = (s, true) then (l, true) else ([], false)
  | none => ([], false)
/-- What is taken is what is put, and nothing else is. -/
theorem takeD_iff {s : ByteArray} {l : List Ent} : takeD s = (l, true) ↔ dirOK l ∧ dirL l = bl s := by
  unfold takeD
  constructor
  · intro h
    split at h
    · split at h
      · rename_i l' hp hq
        injection h with h _
        subst h
        exact putD_iff.1 hq
      · injection h with _ h; cases h
    · injection h with _ h; cases h
  · rintro ⟨h1, h2⟩
    have hp : parseD s.size (bl s) = some l := by
      rw [← h2]; exact parse_dir h1.1 (by rw [bl_size, h2]; exact Nat.le_refl _)
    rw [hp]
    simp only
    rw [if_pos (putD_iff.2 ⟨h1, h2⟩)]
theorem takeD_cases (s : ByteArray) : (∃ l, takeD s = (l, true)) ∨ takeD s = ([], false) := by
  unfold takeD
  split
  · split
    · exact .inl ⟨_, rfl⟩
    · exact .inr rfl
  · exact .inr rfl
theorem takeD_put {l : List Ent} (h : dirOK l) : takeD (ofL (dirL l)) = (l, true) := takeD_iff.2 ⟨h, (bl_ofL _).symm⟩
theorem takeD_mem {s : ByteArray} {e : Ent} (h : e ∈ (takeD s).1) : okE e = true := by
  rcases takeD_cases s with ⟨l, hl⟩ | hl <;> rw [hl] at h
  · exact (takeD_iff.1 hl).1.1 e h
  · cases h
/-- The node of a name. -/
def findD (l : List Ent) (nm : ByteArray) : Int × Bool := match l.find? fun e => eqB e.1 nm with
  | some e => (e.2.1, true)
  | none => (0, false)
def insD (e : Ent) : List Ent → List Ent
  | [] => [e]
  | x :: r => if ltB e.1 x.1 = true then e :: x :: r else x :: insD e r
def withD (l : List Ent) (e : Ent) : List Ent × Bool := if (findD l e.1).2 = true then (l, false) else (insD e l, true)
def lessD (l : List Ent) (nm : ByteArray) : List Ent × Bool := if (findD l nm).2 = true then (l.filter fun e => !eqB e.1 nm, true) else (l, false)
end Go.Proofs.YtodkmhamaahjmaaGreatDoor

/- Trees, in plain terms. -/
set_option maxRecDepth 10000
set_option linter.unusedSimpArgs false
set_option linter.unusedVariables false
namespace Go.Proofs.YtodkmhamaahjmaaGreatDoor
open Go.Tm Go.IntWalk

abbrev NodeT : Ty := .prod (.int .i64) (.prod (.int .i64) (.prod .str .unit))
abbrev Node : Type := Int × Int × ByteArray × Unit
abbrev TreeT : Ty := .slice NodeT
def dfltN : Node := (0, 0, no, ())
/-- The node of a number. -/
def nodeT (t : List Node) (i : Int) : Node := t.getD (i - 1).toNat dfltN
def kindT (t : List Node) (i : Int) : Int := (nodeT t i).1
def bodyT (t : List Node) (i : Int) : ByteArray := (nodeT t i).2.2.1
def namesT (t : List Node) (i : Int) : List Ent := if i < 1 ∨ (t.length : Int) < i ∨ kindT t i ≠ 2 then [] else (takeD (bodyT t i)).1
/-- Not too large. -/
def fitT (t : List Node) : Prop := t.length ≤ 1000 ∧ ∀ n ∈ t, n.2.2.1.size ≤ 4000000000
instance (t : List Node) : Decidable (fitT t) := inferInstanceAs (Decidable (_ ∧ _))
theorem fit_body {t : List Node} (h : fitT t) (i : Int) : (bodyT t i).size ≤ 4000000000 := by
  unfold bodyT nodeT
  rw [List.getD_eq_getElem?_getD]
  rcases Nat.lt_or_ge (i - 1).toNat t.length with hl | hl
  · rw [List.getElem?_eq_getElem hl]; exact h.2 _ (List.getElem_mem hl)
  · rw [List.getElem?_eq_none hl]; decide
theorem dirL_len {l : List Ent} (h : ∀ e ∈ l, okE e = true) : 3 * l.length ≤ (dirL l).length := by
  induction l with
  | nil => simp
  | cons e l ih =>
    have := ih fun x hx => h x (by simp [hx])
    have h1 := ownS_size (okE_out (h e (by simp))).1
    rw [dirL_cons, List.length_append, entL_len, List.length_cons]
    omega
theorem takeD_len (s : ByteArray) : (takeD s).1.length ≤ 40 := by
  rcases takeD_cases s with ⟨l, hl⟩ | hl <;> rw [hl]
  · obtain ⟨h1, h2⟩ := takeD_iff.1 hl
    have := dirL_len h1.1
    have := h1.2.2
    simp only; omega
  · simp
theorem namesT_len (t : List Node) (i : Int) : (namesT t i).length ≤ 40 := by
  unfold namesT
  split
  · simp
  · exact takeD_len _
theorem namesT_ok {t : List Node} {i : Int} {e : Ent} (h : e ∈ namesT t i) : okE e = true := by
  unfold namesT at h
  split at h
  · cases h
  · exact takeD_mem h
theorem namesT_size {t : List Node} {i : Int} : ∀ e ∈ namesT t i, e.1.size ≤ 6 := fun e h => (ownS_size (okE_out (namesT_ok h)).1).2
theorem findD_mem {l : List Ent} {nm : ByteArray} (h : (findD l nm).2 = true) : ∃ e ∈ l, e.1 = nm ∧ (findD l nm).1 = e.2.1 := by
  unfold findD at h ⊢
  cases hf : l.find? fun e => eqB e.1 nm with
  | none => rw [hf] at h; cases h
  | some e =>
    exact ⟨e, List.mem_of_find?_eq_some hf, eqB_iff.1 (by have := List.find?_some hf; exact this), rfl⟩
theorem findD_none {l : List Ent} {nm : ByteArray} (h : (findD l nm).2 = false) : findD l nm = (0, false) ∧ ∀ e ∈ l, e.1 ≠ nm := by
  unfold findD at h ⊢
  cases hf : l.find? fun e => eqB e.1 nm with
  | some e => rw [hf] at h; cases h
  | none =>
    refine ⟨rfl, fun e he h1 => ?_⟩
    have := List.find?_eq_none.1 hf e he
    rw [h1, eqB_refl] at this
    exact this rfl
theorem findD_range {l : List Ent} (h : ∀ e ∈ l, okE e = true) (nm : ByteArray) : (findD l nm).2 = true → 1 ≤ (findD l nm).1 ∧ (findD l nm).1 ≤ 9 := fun hf => by
  obtain ⟨e, h1, _, h2⟩ := findD_mem hf
  rw [h2]; exact (okE_out (h e h1)).2
def walkT (t : List Node) : Int → List ByteArray → Int × Int
  | at', [] => (at', 0)
  | at', s :: r => if kindT t at' ≠ 2 then (0, 5) else if (findD (namesT t at') s).2 = false ∨ (t.length : Int) < (findD (namesT t at') s).1 then (0, 2) else walkT t (findD (namesT t at') s).1 r
def walk0 (t : List Node) (l : List ByteArray) : Int × Int := if t.length < 1 then (0, 2) else walkT t 1 l
theorem walkT_range {t : List Node} : ∀ {l : List ByteArray} {i : Int}, 1 ≤ i → i ≤ t.length → (walkT t i l).2 = 0 → 1 ≤ (walkT t i l).1 ∧ (walkT t i l).1 ≤ t.length
  | [], i, h1, h2, _ => ⟨h1, h2⟩
  | s :: r, i, h1, h2, h => by
    unfold walkT at h ⊢
    split at h
    · cases h
    · split at h
      · cases h
      · rename_i k1 k2
        rw [if_neg k1, if_neg k2]
        have hf : (findD (namesT t i) s).2 = true := by
          cases e : (findD (namesT t i) s).2 with
          | true => rfl
          | false => exact absurd (.inl e) k2
        exact walkT_range (findD_range (fun e he => namesT_ok he) s hf).1 (by omega) h
theorem walk0_range {t : List Node} {l : List ByteArray} (h : (walk0 t l).2 = 0) : 1 ≤ (walk0 t l).1 ∧ (walk0 t l).1 ≤ t.length := by
  unfold walk0 at h ⊢
  split at h
  · cases h
  · rename_i h1
    rw [if_neg h1]
    exact walkT_range (by omega) (by omega) h
def findT (t : List Node) (p : ByteArray) (own : Bool) : Int × Int := if (partsS p own).2 = false then (0, 1) else walk0 t (partsS p own).1
theorem findT_range {t : List Node} {p : ByteArray} {own : Bool} (h : (findT t p own).2 = 0) : 1 ≤ (findT t p own).1 ∧ (findT t p own).1 ≤ t.length := by
  unfold findT at h ⊢
  split at h
  · cases h
  · rename_i h1
    rw [if_neg h1]
    exact walk0_range h
/-- How many of some entries name a node. -/
def cntE (l : List Ent) (ino : Int) : Nat := l.countP fun e => e.2.1 == ino
def cntT (t : List Node) (ino : Int) (n : Nat) : Nat := ((List.range n).map fun i => cntE (namesT t ((i + 1 : Nat) : Int)) ino).sum
def linksT (t : List Node) (ino : Int) : Int := if ino = 1 then 1 else (cntT t ino t.length : Int)
theorem cntT_succ (t : List Node) (ino : Int) (n : Nat) : cntT t ino (n + 1) = cntT t ino n + cntE (namesT t ((n + 1 : Nat) : Int)) ino := by
  simp [cntT, List.range_succ]
theorem cntE_le (l : List Ent) (ino : Int) : cntE l ino ≤ l.length := List.countP_le_length
theorem cntT_le (t : List Node) (ino : Int) (n : Nat) : cntT t ino n ≤ 40 * n := by
  induction n with
  | zero => simp [cntT]
  | succ n ih =>
    rw [cntT_succ]
    have h1 := cntE_le (namesT t ((n + 1 : Nat) : Int)) ino
    have h2 := namesT_len t ((n + 1 : Nat) : Int)
    omega
/-- A node is another one. -/
def setT (t : List Node) (i : Int) (n : Node) : List Node := t.set (i - 1).toNat n
theorem setT_len (t : List Node) (i : Int) (n : Node) : (setT t i n).length = t.length := by simp [setT]
def placeT (t : List Node) (l : List ByteArray) : Int × ByteArray × Int :=
  if (walk0 t l.dropLast).2 ≠ 0 then (0, no, (walk0 t l.dropLast).2) else if kindT t (walk0 t l.dropLast).1 ≠ 2 then (0, no, 5) else ((walk0 t l.dropLast).1, l.getLast?.getD no, 0)
def withBody (n : Node) (b : ByteArray) : Node := (n.1, n.2.1, b, ())
def putT (t : List Node) (dir : Int) (e : Ent) : List Node × Bool :=
  if (putD (withD (namesT t dir) e).1).2 = false then (t, false) else (setT t dir (withBody (nodeT t dir) (putD (withD (namesT t dir) e).1).1), true)
def dropT (t : List Node) (dir : Int) (nm : ByteArray) : List Node := setT t dir (withBody (nodeT t dir) (putD (lessD (namesT t dir) nm).1).1)
def newT : List Node := (2, 7, no, ()) :: List.replicate 8 dfltN
def freeT (t : List Node) : Int := match t.findIdx? fun n => n.1 == 0 with | some i => (i : Int) + 1 | none => 0
end Go.Proofs.YtodkmhamaahjmaaGreatDoor

/- name.Own, by the program. -/
set_option maxRecDepth 10000
set_option maxHeartbeats 1000000
set_option linter.unusedSimpArgs false
set_option linter.unusedVariables false
set_option pp.deepTerms.threshold 12
namespace Go.Proofs.YtodkmhamaahjmaaGreatDoor
open Go.Tm Go.IntWalk
theorem bytes_at (s : ByteArray) (i : Nat) : (bytesOf s).getD i 0 = byteAt s i := by
  unfold bytesOf byteAt
  rw [List.getD_eq_getElem?_getD, List.getD_eq_getElem?_getD, List.getElem?_map]
  cases s.data.toList[i]? <;> rfl
/-- The contract of name.Own. -/
def downC : Con := conN [(.v, .str)] fun (s, _) => if s.size ≤ 9223372036854775807 then some ⟨.val ⟨.bool, ownS s⟩, []⟩ else none
theorem downC_eq {s : ByteArray} : downC [.val ⟨.str, s⟩] = if s.size ≤ 9223372036854775807 then some ⟨.val ⟨.bool, ownS s⟩, []⟩ else none := conN_mk (ks := [(.v, .str)]) (s, ())
def Γdown : Cons := cons []
theorem down_ex (s : ByteArray) (hr : s.size ≤ 9223372036854775807) : Ex tab Γdown (Tryz.f84.body.getD .skip) (EndsF tab Tryz.f84.results.toList [.val ⟨.str, s⟩] ⟨.val ⟨.bool, ownS s⟩, []⟩) (ini [.val ⟨.str, s⟩]) := by
  simp only [Tryz.f84, Option.getD_some]
  simp (implicitDefEqProofs := false) (decide := true) (maxSteps := 4000000) [ini]
  intro m
  have hl : (bytesOf s).length = s.size := bytesOf_len s
  refine ⟨hr, fun _ => ?_⟩
  refine ex_loopU (σ := Nat) [2, 4, 8, 9, 10, 11, 12, 13, 14, 15, 16, 17, 18, 19, 20, 21, 22, 23] (fun a => [(8, .val (.int .i64) (a : Int))]) (fun a => a ≤ s.size ∧ ∀ c ∈ (bl s).take a, okC c = true) (fun a => s.size - a) 0 ⟨Nat.zero_le _, by simp⟩ (hc rfl hn) ?_
  rintro j i ⟨hi, ha⟩
  simp (implicitDefEqProofs := false) (decide := true) (maxSteps := 4000000) [ini]
  have hb : (bytesOf s)[i]?.getD 0 = byteAt s i := by rw [← List.getD_eq_getElem?_getD]; exact bytes_at s i
  rw [hb, show byteAt ⟨#[47]⟩ 0 = (47 : Int) from rfl]
  refine br_dec (fun hlt => ⟨hlt, br_intro (fun h1 => ownS_bad (i := i) (by omega) (by rw [h1]; rfl)) fun h1 => br_intro (fun h2 => ownS_bad (i := i) (by omega) (by rw [h1, h2]; rfl)) fun h2 => br_intro (fun h3 => ownS_bad (i := i) (by omega) (by rw [h1, h2, h3]; rfl)) fun h3 => ?_⟩) fun hge => ?_
  · have hlt : i < s.size := by omega
    refine ⟨i + 1, ⟨hlt, fun c hc => ?_⟩, by omega, w_nat rfl (by omega)⟩
    have hl : i < (bl s).length := by rw [← bl_size]; exact hlt
    rw [List.take_succ_eq_append_getElem hl, List.mem_append, List.mem_singleton] at hc
    rcases hc with hc | rfl
    · exact ha c hc
    · rw [okC_byte hlt, h1, h2, h3]; rfl
  · have e : i = s.size := by omega
    have hall : (bl s).all okC = true := List.all_eq_true.2 fun c hc => ha c (by rw [e, bl_size, List.take_length]; exact hc)
    unfold ownS
    rw [hall]
    refine br_dec (fun h => ?_) fun h => ?_
    · have h : 1 ≤ s.size := by omega
      simp only [h, decide_true, Bool.true_and]
      rw [decide_eq_decide]; omega
    · have h : ¬ 1 ≤ s.size := by omega
      simp [h]
theorem down_ok : ConOK Tryz.prog 84 downC := by
  refine con_ok tab_ok (Γ := Γdown) consOK_nil (by kernel_rfl) Tryz.func84 (by kernel_rfl) ?_
  intro args out h
  obtain ⟨x, e, h1⟩ := conN_inv h
  clear h
  obtain ⟨s, x0⟩ := x
  subst e
  replace h1 : (if s.size ≤ 9223372036854775807 then some ⟨.val ⟨.bool, ownS s⟩, []⟩ else none) = some out := h1
  split at h1
  case isFalse => cases h1
  rename_i hr
  injection h1 with h1
  subst h1
  exact ⟨by rw [mkArgs_len]; decide, down_ex s hr⟩
end Go.Proofs.YtodkmhamaahjmaaGreatDoor
