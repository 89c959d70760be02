/- Trees that may be, and that changes keep them so: plain terms. -/
import Derived.Test.YthhjlbpmpffapaaGreatDoorPEdit
set_option maxRecDepth 10000
set_option linter.unusedSimpArgs false
set_option linter.unusedVariables false
namespace Go.Proofs.YthhjlbpmpffapaaGreatDoor
open Go.Tm Go.IntWalk

theorem nodeT_set {t : List Node} {i j : Int} {n : Node} (hi : 1 ≤ i) (hl : i ≤ t.length) (hj : 1 ≤ j) : nodeT (setT t i n) j = if j = i then n else nodeT t j := by
  unfold nodeT setT
  rw [List.getD_eq_getElem?_getD, List.getD_eq_getElem?_getD, List.getElem?_set]
  by_cases e : j = i
  · subst e
    rw [if_pos rfl, if_pos rfl, if_pos (by omega)]; rfl
  · rw [if_neg (by omega), if_neg e]
theorem names_out {t : List Node} {i : Int} {e : Ent} (h : e ∈ namesT t i) : 1 ≤ i ∧ i ≤ t.length ∧ kindT t i = 2 ∧ e ∈ (takeD (bodyT t i)).1 := by
  unfold namesT at h
  split at h
  · cases h
  · rename_i hc
    refine ⟨by omega, by omega, ?_, h⟩
    exact Classical.byContradiction fun hk => hc (.inr (.inr hk))
theorem names_in {t : List Node} {i : Int} (h1 : 1 ≤ i) (h2 : i ≤ t.length) (hk : kindT t i = 2) : namesT t i = (takeD (bodyT t i)).1 := by
  unfold namesT
  rw [if_neg (by rintro (h | h | h); omega; omega; exact h hk)]
theorem names_node {t t' : List Node} {i : Int} (hl : t'.length = t.length) (hn : nodeT t' i = nodeT t i) : namesT t' i = namesT t i := by
  unfold namesT kindT bodyT
  rw [hl, hn]
theorem names_file {t : List Node} {i : Int} (hk : kindT t i ≠ 2) : namesT t i = [] := by
  unfold namesT
  rw [if_pos (.inr (.inr hk))]
theorem takeD_no : takeD no = ([], true) := takeD_iff.2 ⟨⟨by simp, List.Pairwise.nil, by decide⟩, rfl⟩

/-- Trees that may be. -/
structure GoodT (t : List Node) : Prop where mk ::
  len : t.length = 9
  kind : ∀ i, 1 ≤ i → i ≤ 9 → kindT t i = 0 ∨ kindT t i = 1 ∨ kindT t i = 2
  none : ∀ i, 1 ≤ i → i ≤ 9 → kindT t i = 0 → nodeT t i = dfltN
  mode : ∀ i, 1 ≤ i → i ≤ 9 → 0 ≤ (nodeT t i).2.1 ∧ (nodeT t i).2.1 ≤ 255
  body : ∀ i, 1 ≤ i → i ≤ 9 → (bodyT t i).size ≤ 120
  dir : ∀ i, 1 ≤ i → i ≤ 9 → kindT t i = 2 → (takeD (bodyT t i)).2 = true
  root : kindT t 1 = 2
  there : ∀ i e, e ∈ namesT t i → kindT t e.2.1 ≠ 0
  named : ∀ i, 2 ≤ i → i ≤ 9 → kindT t i ≠ 0 → 1 ≤ cntT t i 9
  rootless : cntT t 1 9 = 0
  once : ∀ i, 2 ≤ i → i ≤ 9 → kindT t i = 2 → cntT t i 9 = 1
  deep : allDeep t
theorem GoodT.fit {t : List Node} (h : GoodT t) : fitT t := by
  refine ⟨by rw [h.len]; decide, fun n hn => ?_⟩
  obtain ⟨k, hk, rfl⟩ := List.mem_iff_getElem.1 hn
  have hl := h.len
  have := h.body ((k : Int) + 1) (by omega) (by omega)
  unfold bodyT nodeT at this
  rw [show ((k : Int) + 1 - 1).toNat = k by omega, List.getD_eq_getElem?_getD, List.getElem?_eq_getElem hk] at this
  simp only [Option.getD_some] at this
  omega
theorem GoodT.take {t : List Node} (h : GoodT t) {i : Int} (h1 : 1 ≤ i) (h2 : i ≤ 9) (hk : kindT t i = 2) : takeD (bodyT t i) = (namesT t i, true) ∧ dirOK (namesT t i) ∧ dirL (namesT t i) = bl (bodyT t i) := by
  have hd := h.dir i h1 h2 hk
  have hn := names_in h1 (by rw [h.len]; exact h2) hk
  have he : takeD (bodyT t i) = (namesT t i, true) := by rw [hn, ← hd]
  exact ⟨he, takeD_iff.1 he⟩
/-- What is found is there. -/
theorem good_walk {t : List Node} (h : GoodT t) : ∀ {l : List ByteArray} {i : Int}, 1 ≤ i → i ≤ 9 → kindT t i ≠ 0 → (walkT t i l).2 = 0 → kindT t (walkT t i l).1 ≠ 0
  | [], i, _, _, hk, _ => hk
  | s :: r, i, h1, h2, hk, hw => by
    unfold walkT at hw ⊢
    split at hw
    · cases hw
    · split at hw
      · cases hw
      · rename_i k1 k2
        rw [if_neg k1, if_neg k2]
        have hf : (findD (namesT t i) s).2 = true := by
          cases e : (findD (namesT t i) s).2 with
          | true => rfl
          | false => exact absurd (.inl e) k2
        obtain ⟨e, he, _, h4⟩ := findD_mem hf
        have hr := findD_range (fun e he => namesT_ok he) s hf
        exact good_walk h hr.1 hr.2 (by rw [h4]; exact h.there i e he) hw
theorem good_find {t : List Node} (h : GoodT t) {p : ByteArray} {own : Bool} (hw : (findT t p own).2 = 0) : kindT t (findT t p own).1 ≠ 0 ∧ 1 ≤ (findT t p own).1 ∧ (findT t p own).1 ≤ 9 := by
  have hr := findT_range hw
  rw [h.len] at hr
  refine ⟨?_, hr⟩
  obtain ⟨_, h2⟩ := find_parts hw
  rw [h2] at hw ⊢
  have hl : ¬ t.length < 1 := by rw [h.len]; decide
  rw [walk0, if_neg hl] at hw ⊢
  exact good_walk h (by decide) (by decide) (by rw [h.root]; decide) hw

/-- Counts, where the names of one folder turn. -/
theorem cnt_upd {t t' : List Node} {d : Int} (ino : Int) (h1 : 1 ≤ d) (h : ∀ j : Int, 1 ≤ j → j ≠ d → namesT t' j = namesT t j) : ∀ n : Nat,
    cntT t' ino n + (if d ≤ n then cntE (namesT t d) ino else 0) = cntT t ino n + (if d ≤ n then cntE (namesT t' d) ino else 0)
  | 0 => by rw [if_neg (by omega), if_neg (by omega)]; rfl
  | n + 1 => by
    have ih := cnt_upd (t := t) (t' := t') ino h1 h n
    rw [cntT_succ, cntT_succ]
    by_cases e : d = ((n + 1 : Nat) : Int)
    · rw [if_neg (by omega), if_neg (by omega)] at ih
      rw [if_pos (by omega), if_pos (by omega), ← e]; omega
    · rw [h _ (by omega) (fun e' => e e'.symm)]
      by_cases e2 : d ≤ n
      · rw [if_pos e2, if_pos e2] at ih
        rw [if_pos (by omega), if_pos (by omega)]; omega
      · rw [if_neg e2, if_neg e2] at ih
        rw [if_neg (by omega), if_neg (by omega)]; omega
theorem cnt_upd9 {t t' : List Node} {d : Int} (ino : Int) (h1 : 1 ≤ d) (h2 : d ≤ 9) (h : ∀ j : Int, 1 ≤ j → j ≠ d → namesT t' j = namesT t j) : cntT t' ino 9 + cntE (namesT t d) ino = cntT t ino 9 + cntE (namesT t' d) ino := by
  have := cnt_upd (t := t) (t' := t') ino h1 h 9
  rw [if_pos (show d ≤ ((9 : Nat) : Int) by omega), if_pos (show d ≤ ((9 : Nat) : Int) by omega)] at this
  exact this
theorem cnt_same {t t' : List Node} (ino : Int) (h : ∀ j : Int, 1 ≤ j → namesT t' j = namesT t j) (n : Nat) : cntT t' ino n = cntT t ino n := by
  have := cnt_upd (t := t) (t' := t') (d := 1) ino (by decide) (fun j hj _ => h j hj) n
  rw [h 1 (by decide)] at this
  omega
theorem cntE_cons (e : Ent) (l : List Ent) (ino : Int) : cntE (e :: l) ino = cntE l ino + if e.2.1 = ino then 1 else 0 := by
  unfold cntE
  rw [List.countP_cons]
  by_cases h : e.2.1 = ino <;> simp [h]
theorem cntE_ins (e : Ent) (ino : Int) : ∀ l : List Ent, cntE (insD e l) ino = cntE l ino + if e.2.1 = ino then 1 else 0
  | [] => cntE_cons e [] ino
  | x :: r => by
    rw [insD]
    split
    · exact cntE_cons e (x :: r) ino
    · rw [cntE_cons, cntE_cons, cntE_ins e ino r]; omega
theorem cntE_pos {l : List Ent} {e : Ent} (h : e ∈ l) : 1 ≤ cntE l e.2.1 := List.countP_pos_iff.2 ⟨e, h, by simp⟩
theorem cntT_mem {t : List Node} {i : Int} {e : Ent} (h : e ∈ namesT t i) : ∀ {n : Nat}, i ≤ n → 1 ≤ cntT t e.2.1 n
  | 0, hn => by have := (names_out h).1; omega
  | n + 1, hn => by
    rw [cntT_succ]
    by_cases e1 : i = ((n + 1 : Nat) : Int)
    · have := cntE_pos h
      rw [e1] at this; omega
    · have := cntT_mem h (n := n) (by omega)
      omega
theorem cntT_ex {t : List Node} {ino : Int} : ∀ {n : Nat}, 1 ≤ cntT t ino n → ∃ i : Int, ∃ e ∈ namesT t i, e.2.1 = ino ∧ 1 ≤ i ∧ i ≤ n
  | 0, h => by simp [cntT] at h
  | n + 1, h => by
    rw [cntT_succ] at h
    by_cases e : 1 ≤ cntT t ino n
    · obtain ⟨i, x, h1, h2, h3, h4⟩ := cntT_ex e
      exact ⟨i, x, h1, h2, h3, by omega⟩
    · have : 0 < cntE (namesT t ((n + 1 : Nat) : Int)) ino := by omega
      obtain ⟨x, h1, h2⟩ := List.countP_pos_iff.1 this
      exact ⟨_, x, h1, by simpa using h2, by omega, Int.le_refl _⟩
theorem mem_ins {e x : Ent} : ∀ {l : List Ent}, x ∈ insD e l ↔ x = e ∨ x ∈ l
  | [] => by simp [insD]
  | y :: r => by
    rw [insD]
    split
    · simp
    · rw [List.mem_cons, mem_ins, List.mem_cons]
      exact ⟨fun h => h.elim (fun h => .inr (.inl h)) (fun h => h.elim .inl (fun h => .inr (.inr h))), fun h => h.elim (fun h => .inr (.inl h)) (fun h => h.elim .inl (fun h => .inr (.inr h)))⟩

/-! ### A name is put, or cut out -/
theorem put_out {t : List Node} {d : Int} {e : Ent} (hd : 1 ≤ d) (hl : d ≤ t.length) (hk : kindT t d = 2) (hf : (findD (namesT t d) e.1).2 = false) (h : (putT t d e).2 = true) :
    dirOK (insD e (namesT t d)) ∧ (putT t d e).1 = setT t d (withBody (nodeT t d) (ofL (dirL (insD e (namesT t d))))) ∧ namesT (putT t d e).1 d = insD e (namesT t d) := by
  have hw : (withD (namesT t d) e).1 = insD e (namesT t d) := by unfold withD; rw [hf]; rfl
  have hok : dirOK (insD e (namesT t d)) := by
    refine Classical.byContradiction fun hn => ?_
    unfold putT at h
    rw [hw, putD_no hn, if_pos rfl] at h
    cases h
  have he : (putT t d e).1 = setT t d (withBody (nodeT t d) (ofL (dirL (insD e (namesT t d))))) := by
    unfold putT
    rw [hw, putD_ok hok, if_neg (by simp)]
  refine ⟨hok, he, ?_⟩
  rw [he, names_in hd (by rw [setT_len]; exact hl)]
  · unfold bodyT
    rw [nodeT_set hd hl hd, if_pos rfl]
    show (takeD (ofL (dirL (insD e (namesT t d))))).1 = _
    rw [takeD_put hok]
  · unfold kindT
    rw [nodeT_set hd hl hd, if_pos rfl]
    exact hk
theorem drop_out {t : List Node} (hg : GoodT t) {d : Int} {nm : ByteArray} (hd : 1 ≤ d) (hl : d ≤ 9) (hk : kindT t d = 2) :
    dirOK (lessD (namesT t d) nm).1 ∧ dropT t d nm = setT t d (withBody (nodeT t d) (ofL (dirL (lessD (namesT t d) nm).1))) ∧ namesT (dropT t d nm) d = (lessD (namesT t d) nm).1 := by
  obtain ⟨_, h1, h2⟩ := hg.take hd hl hk
  have hok : dirOK (lessD (namesT t d) nm).1 := by
    unfold lessD
    split
    · refine ⟨fun e he => h1.1 e (List.mem_filter.1 he).1, List.Pairwise.filter _ h1.2.1, Nat.le_trans ?_ h1.2.2⟩
      have key : ∀ (f : Ent → Bool) (l : List Ent), (dirL (l.filter f)).length ≤ (dirL l).length := by
        intro f l
        induction l with
        | nil => simp
        | cons x l ih =>
          rw [List.filter_cons]
          split
          · rw [dirL_cons, dirL_cons, List.length_append, List.length_append]; omega
          · rw [dirL_cons, List.length_append]; omega
      exact key _ _
    · exact h1
  have he : dropT t d nm = setT t d (withBody (nodeT t d) (ofL (dirL (lessD (namesT t d) nm).1))) := by
    unfold dropT
    rw [putD_ok hok]
  have hl' : d ≤ t.length := by rw [hg.len]; exact hl
  refine ⟨hok, he, ?_⟩
  rw [he, names_in hd (by rw [setT_len]; exact hl')]
  · unfold bodyT
    rw [nodeT_set hd hl' hd, if_pos rfl]
    show (takeD (ofL (dirL (lessD (namesT t d) nm).1))).1 = _
    rw [takeD_put hok]
  · unfold kindT
    rw [nodeT_set hd hl' hd, if_pos rfl]
    exact hk
end Go.Proofs.YthhjlbpmpffapaaGreatDoor
