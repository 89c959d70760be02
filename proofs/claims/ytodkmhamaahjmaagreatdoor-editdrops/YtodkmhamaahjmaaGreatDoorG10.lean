/- Texts joined: PGood, PGood2, PGood3, PGood4. -/
import Derived.Test.YtodkmhamaahjmaaGreatDoorPEdit
/- Trees that may be, and that changes keep them so: plain terms. -/
set_option maxRecDepth 10000
set_option linter.unusedSimpArgs false
set_option linter.unusedVariables false
namespace Go.Proofs.YtodkmhamaahjmaaGreatDoor
open Go.Tm Go.IntWalk

theorem nodeT_set {t : List Node} {i j : Int} {n : Node} (hi : 1 ≤ i) (hl : i ≤ t.length) (hj : 1 ≤ j) : nodeT (setT t i n) j = if j = i then n else nodeT t j := by
  unfold nodeT setT
  rw [List.getD_eq_getElem?_getD, List.getD_eq_getElem?_getD, List.getElem?_set]
  by_cases e : j = i
  · subst e
    rw [if_pos rfl, if_pos rfl, if_pos (by omega)]; rfl
  · rw [if_neg (by omega), if_neg e]
theorem names_out {t : List Node} {i : Int} {e : Ent} (h : e ∈ namesT t i) : 1 ≤ i ∧ i ≤ t.length ∧ kindT t i = 2 ∧ e ∈ (takeD (bodyT t i)).1 := by
  unfold namesT at h
  split at h
  · cases h
  · rename_i hc
    refine ⟨by omega, by omega, ?_, h⟩
    exact Classical.byContradiction fun hk => hc (.inr (.inr hk))
theorem names_in {t : List Node} {i : Int} (h1 : 1 ≤ i) (h2 : i ≤ t.length) (hk : kindT t i = 2) : namesT t i = (takeD (bodyT t i)).1 := by
  unfold namesT
  rw [if_neg (by rintro (h | h | h); omega; omega; exact h hk)]
theorem names_node {t t' : List Node} {i : Int} (hl : t'.length = t.length) (hn : nodeT t' i = nodeT t i) : namesT t' i = namesT t i := by
  unfold namesT kindT bodyT
  rw [hl, hn]
theorem names_file {t : List Node} {i : Int} (hk : kindT t i ≠ 2) : namesT t i = [] := by
  unfold namesT
  rw [if_pos (.inr (.inr hk))]
theorem takeD_no : takeD no = ([], true) := takeD_iff.2 ⟨⟨by simp, List.Pairwise.nil, by decide⟩, rfl⟩

/-- Trees that may be. -/
structure GoodT (t : List Node) : Prop where mk ::
  len : t.length = 9
  kind : ∀ i, 1 ≤ i → i ≤ 9 → kindT t i = 0 ∨ kindT t i = 1 ∨ kindT t i = 2
  none : ∀ i, 1 ≤ i → i ≤ 9 → kindT t i = 0 → nodeT t i = dfltN
  mode : ∀ i, 1 ≤ i → i ≤ 9 → 0 ≤ (nodeT t i).2.1 ∧ (nodeT t i).2.1 ≤ 255
  body : ∀ i, 1 ≤ i → i ≤ 9 → (bodyT t i).size ≤ 120
  dir : ∀ i, 1 ≤ i → i ≤ 9 → kindT t i = 2 → (takeD (bodyT t i)).2 = true
  root : kindT t 1 = 2
  there : ∀ i e, e ∈ namesT t i → kindT t e.2.1 ≠ 0
  named : ∀ i, 2 ≤ i → i ≤ 9 → kindT t i ≠ 0 → 1 ≤ cntT t i 9
  rootless : cntT t 1 9 = 0
  once : ∀ i, 2 ≤ i → i ≤ 9 → kindT t i = 2 → cntT t i 9 = 1
  deep : allDeep t
theorem GoodT.fit {t : List Node} (h : GoodT t) : fitT t := by
  refine ⟨by rw [h.len]; decide, fun n hn => ?_⟩
  obtain ⟨k, hk, rfl⟩ := List.mem_iff_getElem.1 hn
  have hl := h.len
  have := h.body ((k : Int) + 1) (by omega) (by omega)
  unfold bodyT nodeT at this
  rw [show ((k : Int) + 1 - 1).toNat = k by omega, List.getD_eq_getElem?_getD, List.getElem?_eq_getElem hk] at this
  simp only [Option.getD_some] at this
  omega
theorem GoodT.take {t : List Node} (h : GoodT t) {i : Int} (h1 : 1 ≤ i) (h2 : i ≤ 9) (hk : kindT t i = 2) : takeD (bodyT t i) = (namesT t i, true) ∧ dirOK (namesT t i) ∧ dirL (namesT t i) = bl (bodyT t i) := by
  have hd := h.dir i h1 h2 hk
  have hn := names_in h1 (by rw [h.len]; exact h2) hk
  have he : takeD (bodyT t i) = (namesT t i, true) := by rw [hn, ← hd]
  exact ⟨he, takeD_iff.1 he⟩
/-- What is found is there. -/
theorem good_walk {t : List Node} (h : GoodT t) : ∀ {l : List ByteArray} {i : Int}, 1 ≤ i → i ≤ 9 → kindT t i ≠ 0 → (walkT t i l).2 = 0 → kindT t (walkT t i l).1 ≠ 0
  | [], i, _, _, hk, _ => hk
  | s :: r, i, h1, h2, hk, hw => by
    unfold walkT at hw ⊢
    split at hw
    · cases hw
    · split at hw
      · cases hw
      · rename_i k1 k2
        rw [if_neg k1, if_neg k2]
        have hf : (findD (namesT t i) s).2 = true := by
          cases e : (findD (namesT t i) s).2 with
          | true => rfl
          | false => exact absurd (.inl e) k2
        obtain ⟨e, he, _, h4⟩ := findD_mem hf
        have hr := findD_range (fun e he => namesT_ok he) s hf
        exact good_walk h hr.1 hr.2 (by rw [h4]; exact h.there i e he) hw
theorem good_find {t : List Node} (h : GoodT t) {p : ByteArray} {own : Bool} (hw : (findT t p own).2 = 0) : kindT t (findT t p own).1 ≠ 0 ∧ 1 ≤ (findT t p own).1 ∧ (findT t p own).1 ≤ 9 := by
  have hr := findT_range hw
  rw [h.len] at hr
  refine ⟨?_, hr⟩
  obtain ⟨_, h2⟩ := find_parts hw
  rw [h2] at hw ⊢
  have hl : ¬ t.length < 1 := by rw [h.len]; decide
  rw [walk0, if_neg hl] at hw ⊢
  exact good_walk h (by decide) (by decide) (by rw [h.root]; decide) hw

/-- Counts, where the names of one folder turn. -/
theorem cnt_upd {t t' : List Node} {d : Int} (ino : Int) (h1 : 1 ≤ d) (h : ∀ j : Int, 1 ≤ j → j ≠ d → namesT t' j = namesT t j) : ∀ n : Nat,
    cntT t' ino n + (if d ≤ n then cntE (namesT t d) ino else 0) = cntT t ino n + (if d ≤ n then cntE (namesT t' d) ino else 0)
  | 0 => by rw [if_neg (by omega), if_neg (by omega)]; rfl
  | n + 1 => by
    have ih := cnt_upd (t := t) (t' := t') ino h1 h n
    rw [cntT_succ, cntT_succ]
    by_cases e : d = ((n + 1 : Nat) : Int)
    · rw [if_neg (by omega), if_neg (by omega)] at ih
      rw [if_pos (by omega), if_pos (by omega), ← e]; omega
    · rw [h _ (by omega) (fun e' => e e'.symm)]
      by_cases e2 : d ≤ n
      · rw [if_pos e2, if_pos e2] at ih
        rw [if_pos (by omega), if_pos (by omega)]; omega
      · rw [if_neg e2, if_neg e2] at ih
        rw [if_neg (by omega), if_neg (by omega)]; omega
theorem cnt_upd9 {t t' : List Node} {d : Int} (ino : Int) (h1 : 1 ≤ d) (h2 : d ≤ 9) (h : ∀ j : Int, 1 ≤ j → j ≠ d → namesT t' j = namesT t j) : cntT t' ino 9 + cntE (namesT t d) ino = cntT t ino 9 + cntE (namesT t' d) ino := by
  have := cnt_upd (t := t) (t' := t') ino h1 h 9
  rw [if_pos (show d ≤ ((9 : Nat) : Int) by omega), if_pos (show d ≤ ((9 : Nat) : Int) by omega)] at this
  exact this
theorem cnt_same {t t' : List Node} (ino : Int) (h : ∀ j : Int, 1 ≤ j → namesT t' j = namesT t j) (n : Nat) : cntT t' ino n = cntT t ino n := by
  have := cnt_upd (t := t) (t' := t') (d := 1) ino (by decide) (fun j hj _ => h j hj) n
  rw [h 1 (by decide)] at this
  omega
theorem cntE_cons (e : Ent) (l : List Ent) (ino : Int) : cntE (e :: l) ino = cntE l ino + if e.2.1 = ino then 1 else 0 := by
  unfold cntE
  rw [List.countP_cons]
  by_cases h : e.2.1 = ino <;> simp [h]
theorem cntE_ins (e : Ent) (ino : Int) : ∀ l : List Ent, cntE (insD e l) ino = cntE l ino + if e.2.1 = ino then 1 else 0
  | [] => cntE_cons e [] ino
  | x :: r => by
    rw [insD]
    split
    · exact cntE_cons e (x :: r) ino
    · rw [cntE_cons, cntE_cons, cntE_ins e ino r]; omega
theorem cntE_pos {l : List Ent} {e : Ent} (h : e ∈ l) : 1 ≤ cntE l e.2.1 := List.countP_pos_iff.2 ⟨e, h, by simp⟩
theorem cntT_mem {t : List Node} {i : Int} {e : Ent} (h : e ∈ namesT t i) : ∀ {n : Nat}, i ≤ n → 1 ≤ cntT t e.2.1 n
  | 0, hn => by have := (names_out h).1; omega
  | n + 1, hn => by
    rw [cntT_succ]
    by_cases e1 : i = ((n + 1 : Nat) : Int)
    · have := cntE_pos h
      rw [e1] at this; omega
    · have := cntT_mem h (n := n) (by omega)
      omega
theorem cntT_ex {t : List Node} {ino : Int} : ∀ {n : Nat}, 1 ≤ cntT t ino n → ∃ i : Int, ∃ e ∈ namesT t i, e.2.1 = ino ∧ 1 ≤ i ∧ i ≤ n
  | 0, h => by simp [cntT] at h
  | n + 1, h => by
    rw [cntT_succ] at h
    by_cases e : 1 ≤ cntT t ino n
    · obtain ⟨i, x, h1, h2, h3, h4⟩ := cntT_ex e
      exact ⟨i, x, h1, h2, h3, by omega⟩
    · have : 0 < cntE (namesT t ((n + 1 : Nat) : Int)) ino := by omega
      obtain ⟨x, h1, h2⟩ := List.countP_pos_iff.1 this
      exact ⟨_, x, h1, by simpa using h2, by omega, Int.le_refl _⟩
theorem mem_ins {e x : Ent} : ∀ {l : List Ent}, x ∈ insD e l ↔ x = e ∨ x ∈ l
  | [] => by simp [insD]
  | y :: r => by
    rw [insD]
    split
    · simp
    · rw [List.mem_cons, mem_ins, List.mem_cons]
      exact ⟨fun h => h.elim (fun h => .inr (.inl h)) (fun h => h.elim .inl (fun h => .inr (.inr h))), fun h => h.elim (fun h => .inr (.inl h)) (fun h => h.elim .inl (fun h => .inr (.inr h)))⟩

/-! ### A name is put, or cut out -/
theorem put_out {t : List Node} {d : Int} {e : Ent} (hd : 1 ≤ d) (hl : d ≤ t.length) (hk : kindT t d = 2) (hf : (findD (namesT t d) e.1).2 = false) (h : (putT t d e).2 = true) :
    dirOK (insD e (namesT t d)) ∧ (putT t d e).1 = setT t d (withBody (nodeT t d) (ofL (dirL (insD e (namesT t d))))) ∧ namesT (putT t d e).1 d = insD e (namesT t d) := by
  have hw : (withD (namesT t d) e).1 = insD e (namesT t d) := by unfold withD; rw [hf]; rfl
  have hok : dirOK (insD e (namesT t d)) := by
    refine Classical.byContradiction fun hn => ?_
    unfold putT at h
    rw [hw, putD_no hn, if_pos rfl] at h
    cases h
  have he : (putT t d e).1 = setT t d (withBody (nodeT t d) (ofL (dirL (insD e (namesT t d))))) := by
    unfold putT
    rw [hw, putD_ok hok, if_neg (by simp)]
  refine ⟨hok, he, ?_⟩
  rw [he, names_in hd (by rw [setT_len]; exact hl)]
  · unfold bodyT
    rw [nodeT_set hd hl hd, if_pos rfl]
    show (takeD (ofL (dirL (insD e (namesT t d))))).1 = _
    rw [takeD_put hok]
  · unfold kindT
    rw [nodeT_set hd hl hd, if_pos rfl]
    exact hk
theorem drop_out {t : List Node} (hg : GoodT t) {d : Int} {nm : ByteArray} (hd : 1 ≤ d) (hl : d ≤ 9) (hk : kindT t d = 2) :
    dirOK (lessD (namesT t d) nm).1 ∧ dropT t d nm = setT t d (withBody (nodeT t d) (ofL (dirL (lessD (namesT t d) nm).1))) ∧ namesT (dropT t d nm) d = (lessD (namesT t d) nm).1 := by
  obtain ⟨_, h1, h2⟩ := hg.take hd hl hk
  have hok : dirOK (lessD (namesT t d) nm).1 := by
    unfold lessD
    split
    · refine ⟨fun e he => h1.1 e (List.mem_filter.1 he).1, List.Pairwise.filter _ h1.2.1, Nat.le_trans ?_ h1.2.2⟩
      have key : ∀ (f : Ent → Bool) (l : List Ent), (dirL (l.filter f)).length ≤ (dirL l).length := by
        intro f l
        induction l with
        | nil => simp
        | cons x l ih =>
          rw [List.filter_cons]
          split
          · rw [dirL_cons, dirL_cons, List.length_append, List.length_append]; omega
          · rw [dirL_cons, List.length_append]; omega
      exact key _ _
    · exact h1
  have he : dropT t d nm = setT t d (withBody (nodeT t d) (ofL (dirL (lessD (namesT t d) nm).1))) := by
    unfold dropT
    rw [putD_ok hok]
  have hl' : d ≤ t.length := by rw [hg.len]; exact hl
  refine ⟨hok, he, ?_⟩
  rw [he, names_in hd (by rw [setT_len]; exact hl')]
  · unfold bodyT
    rw [nodeT_set hd hl' hd, if_pos rfl]
    show (takeD (ofL (dirL (lessD (namesT t d) nm).1))).1 = _
    rw [takeD_put hok]
  · unfold kindT
    rw [nodeT_set hd hl' hd, if_pos rfl]
    exact hk
end Go.Proofs.YtodkmhamaahjmaaGreatDoor

/- Changes keep trees such as may be: plain terms. -/
set_option maxRecDepth 10000
set_option linter.unusedSimpArgs false
set_option linter.unusedVariables false
namespace Go.Proofs.YtodkmhamaahjmaaGreatDoor
open Go.Tm Go.IntWalk

/-! ### Chains downward -/
theorem deep_list {t : List Node} {P : Ent → Prop} : ∀ {l : List Ent}, (∀ e ∈ l, P e → ∃ k, Deep t k e.2.1) → ∃ k, ∀ e ∈ l, P e → Deep t k e.2.1
  | [], _ => ⟨0, fun e he => by cases he⟩
  | x :: l, h => by
    obtain ⟨k, hk⟩ := deep_list (t := t) (P := P) (l := l) fun e he => h e (by simp [he])
    by_cases hx : P x
    · obtain ⟨m, hm⟩ := h x (by simp) hx
      refine ⟨max k m, fun e he hp => ?_⟩
      rcases List.mem_cons.1 he with rfl | he
      · exact hm.le (Nat.le_max_right _ _)
      · exact (hk e he hp).le (Nat.le_max_left _ _)
    · refine ⟨k, fun e he hp => ?_⟩
      rcases List.mem_cons.1 he with rfl | he
      · exact absurd hp hx
      · exact hk e he hp
theorem deep_keep {t t' : List Node} (hl : t'.length = t.length) {d x : Int} (he : ∀ i e, e ∈ namesT t' i → kindT t' e.2.1 = 2 → (e ∈ namesT t i ∧ kindT t e.2.1 = 2) ∨ (i = d ∧ e.2.1 = x))
    (hx : kindT t' x = 2 → ¬ Within t d x) (h : allDeep t) : allDeep t' := by
  have c1 : ∀ k y, Deep t k y → ¬ Within t d y → Deep t' k y := by
    intro k
    induction k with
    | zero => intro y h _; exact h
    | succ k ih =>
      intro y h hw e hm hle hk
      rw [hl] at hle
      rcases he y e hm hk with ⟨h1, h2⟩ | ⟨h1, _⟩
      · exact ih _ (h e h1 hle h2) fun hw' => hw (.down h1 hle h2 hw')
      · subst h1; exact absurd .here hw
  intro y
  obtain ⟨k, hk⟩ := h y
  induction k generalizing y with
  | zero => exact hk.elim
  | succ k ih =>
    obtain ⟨m, hm⟩ := deep_list (t := t') (P := fun e => e.2.1 ≤ (t'.length : Int) ∧ kindT t' e.2.1 = 2) (l := namesT t' y) fun e hm ⟨hle, hk2⟩ => by
      rcases he y e hm hk2 with ⟨h1, h2⟩ | ⟨h1, h2⟩
      · exact ih _ (hk e h1 (by rw [hl] at hle; exact hle) h2)
      · rw [h2] at hk2 ⊢
        obtain ⟨k0, hk0⟩ := h x
        exact ⟨k0, c1 _ _ hk0 (hx hk2)⟩
    exact ⟨m + 1, fun e he hle hk2 => hm e he ⟨hle, hk2⟩⟩
theorem deep_less {t t' : List Node} (hl : t'.length = t.length) (he : ∀ i e, e ∈ namesT t' i → kindT t' e.2.1 = 2 → e ∈ namesT t i ∧ kindT t e.2.1 = 2) (h : allDeep t) : allDeep t' := by
  intro y
  obtain ⟨k, hk⟩ := h y
  refine ⟨k, ?_⟩
  induction k generalizing y with
  | zero => exact hk
  | succ k ih =>
    intro e hm hle hk2
    obtain ⟨h1, h2⟩ := he y e hm hk2
    exact ih _ (hk e h1 (by rw [hl] at hle; exact hle) h2)
theorem within_less {t t' : List Node} (hl : t'.length = t.length) (he : ∀ i e, e ∈ namesT t' i → kindT t' e.2.1 = 2 → e ∈ namesT t i ∧ kindT t e.2.1 = 2) {d x : Int} (h : Within t' d x) : Within t d x := by
  induction h with
  | here => exact .here
  | down h1 h2 h3 _ ih =>
    obtain ⟨h4, h5⟩ := he _ _ h1 h3
    exact .down h4 (by rw [hl] at h2; exact h2) h5 ih

/-! ### A node turns, but no name -/
theorem good_node {t : List Node} (hg : GoodT t) {i : Int} {n : Node} (h1 : 1 ≤ i) (h2 : i ≤ 9) (hk : n.1 = kindT t i) (h0 : kindT t i ≠ 0) (hm : 0 ≤ n.2.1 ∧ n.2.1 ≤ 255) (hb : n.2.2.1.size ≤ 120) (hd : kindT t i = 2 → n.2.2.1 = bodyT t i) : GoodT (setT t i n) := by
  have hl : i ≤ t.length := by rw [hg.len]; exact h2
  have hn : ∀ j, 1 ≤ j → nodeT (setT t i n) j = if j = i then n else nodeT t j := fun j hj => nodeT_set h1 hl hj
  have hkd : ∀ j, 1 ≤ j → kindT (setT t i n) j = kindT t j := fun j hj => by
    unfold kindT
    rw [hn j hj]
    split
    · rename_i e; rw [e]; exact hk
    · rfl
  have hnm : ∀ j, 1 ≤ j → namesT (setT t i n) j = namesT t j := fun j hj => by
    by_cases e : j = i
    · subst e
      by_cases k2 : kindT t j = 2
      · rw [names_in hj (by rw [setT_len]; exact hl) (by rw [hkd j hj]; exact k2), names_in hj hl k2]
        unfold bodyT
        rw [hn j hj, if_pos rfl, hd k2]; rfl
      · rw [names_file (by rw [hkd j hj]; exact k2), names_file k2]
    · exact names_node (setT_len _ _ _) (by rw [hn j hj, if_neg e])
  have hnm' : ∀ j e, e ∈ namesT (setT t i n) j → e ∈ namesT t j := fun j e he => by
    rw [hnm j (names_out he).1] at he; exact he
  have hc : ∀ ino, cntT (setT t i n) ino 9 = cntT t ino 9 := fun ino => cnt_same ino hnm 9
  refine ⟨by rw [setT_len]; exact hg.len, fun j a b => by rw [hkd j a]; exact hg.kind j a b, fun j a b c => ?_, fun j a b => ?_, fun j a b => ?_, fun j a b c => ?_, by rw [hkd 1 (by decide)]; exact hg.root, fun j e he => ?_, fun j a b c => ?_, by rw [hc]; exact hg.rootless, fun j a b c => ?_, ?_⟩
  · rw [hkd j a] at c
    rw [hn j a, if_neg (fun e => h0 (by rw [← e]; exact c))]
    exact hg.none j a b c
  · rw [hn j a]
    split
    · exact hm
    · exact hg.mode j a b
  · unfold bodyT
    rw [hn j a]
    split
    · exact hb
    · exact hg.body j a b
  · rw [hkd j a] at c
    unfold bodyT
    rw [hn j a]
    split
    · rename_i e
      rw [hd (by rw [← e]; exact c), ← e]
      exact hg.dir j a b c
    · exact hg.dir j a b c
  · have := hg.there j e (hnm' j e he)
    have hr := (okE_out (namesT_ok he)).2
    rw [hkd _ hr.1]; exact this
  · rw [hkd j (by omega)] at c
    rw [hc]; exact hg.named j a b c
  · rw [hkd j (by omega)] at c
    rw [hc]; exact hg.once j a b c
  · refine deep_less (setT_len _ _ _) (fun j e he hk2 => ⟨hnm' j e he, ?_⟩) hg.deep
    rw [← hkd _ (okE_out (namesT_ok he)).2.1]; exact hk2
theorem good_mode {t : List Node} (hg : GoodT t) (p : ByteArray) (m : Int) (own : Bool) : GoodT (modeT t p m own).1 := by
  unfold modeT
  split
  · exact hg
  · rename_i h1
    split
    · exact hg
    · rename_i h2
      obtain ⟨k0, k1, k2⟩ := good_find hg (by simpa using h1)
      exact good_node hg k1 k2 rfl k0 ⟨by simp only; omega, by simp only; omega⟩ (hg.body _ k1 k2) (fun _ => rfl)
theorem fileT_out {t : List Node} {p : ByteArray} {own : Bool} (h : (fileT t p own).2 = 0) : (findT t p own).2 = 0 ∧ fileT t p own = findT t p own ∧ kindT t (findT t p own).1 ≠ 2 := by
  unfold fileT at h ⊢
  by_cases hc : (findT t p own).2 = 0 ∧ kindT t (findT t p own).1 = 2
  · rw [if_pos hc] at h; cases h
  · rw [if_neg hc] at h ⊢
    exact ⟨h, rfl, fun hk => hc ⟨h, hk⟩⟩
theorem writeB_size (s : ByteArray) {off : Int} (x : ByteArray) (h0 : 0 ≤ off) (h1 : off ≤ writeN s off x) : (writeB s off x).size = (writeN s off x).toNat := by
  unfold writeB
  rw [size_strOf, over_len, bytesOf_len, longB_size]
  rw [List.length_take, bytesOf_len, bytesOf_len, longB_size]
  omega
theorem good_write {t : List Node} (hg : GoodT t) (p : ByteArray) (off : Int) (x : ByteArray) (own : Bool) : GoodT (writeT t p off x own).1 := by
  unfold writeT
  split
  · exact hg
  rename_i h1
  split
  · exact hg
  rename_i h2
  split
  · exact hg
  rename_i h3
  split
  · exact hg
  have h1 : (fileT t p own).2 = 0 := by simpa using h1
  obtain ⟨f1, f2, f3⟩ := fileT_out h1
  obtain ⟨k0, k1, k2⟩ := good_find hg f1
  rw [f2]
  have hb := hg.body _ k1 k2
  have hn : off ≤ writeN (bodyT t (findT t p own).1) off x ∧ writeN (bodyT t (findT t p own).1) off x ≤ 120 := by unfold writeN; split <;> omega
  refine good_node hg k1 k2 rfl k0 (hg.mode _ k1 k2) ?_ (fun h => absurd h f3)
  show (writeB (bodyT t (findT t p own).1) off x).size ≤ 120
  rw [writeB_size _ _ (by omega) hn.1]; omega
theorem good_size {t : List Node} (hg : GoodT t) (p : ByteArray) (n : Int) (own : Bool) : GoodT (sizeT t p n own).1 := by
  unfold sizeT
  split
  · exact hg
  rename_i h1
  split
  · exact hg
  rename_i h2
  split
  · exact hg
  rename_i h3
  have h1 : (fileT t p own).2 = 0 := by simpa using h1
  obtain ⟨f1, f2, f3⟩ := fileT_out h1
  obtain ⟨k0, k1, k2⟩ := good_find hg f1
  rw [f2]
  refine good_node hg k1 k2 rfl k0 (hg.mode _ k1 k2) ?_ (fun h => absurd h f3)
  show (longB (bodyT t (findT t p own).1) n).size ≤ 120
  rw [longB_size]; omega
end Go.Proofs.YtodkmhamaahjmaaGreatDoor

/- Changes of names keep trees such as may be: plain terms. -/
set_option maxRecDepth 10000
set_option maxHeartbeats 400000
set_option linter.unusedSimpArgs false
set_option linter.unusedVariables false
namespace Go.Proofs.YtodkmhamaahjmaaGreatDoor
open Go.Tm Go.IntWalk

theorem free_kind {t : List Node} (h : freeT t ≠ 0) : 1 ≤ freeT t ∧ freeT t ≤ t.length ∧ kindT t (freeT t) = 0 := by
  unfold freeT at h ⊢
  cases e : t.findIdx? (fun n => n.1 == 0) with
  | none => rw [e] at h; exact absurd rfl h
  | some i =>
    simp only
    obtain ⟨hi, hp, _⟩ := List.findIdx?_eq_some_iff_getElem.1 e
    refine ⟨by omega, by omega, ?_⟩
    unfold kindT nodeT
    rw [show ((i : Int) + 1 - 1).toNat = i by omega, List.getD_eq_getElem?_getD, List.getElem?_eq_getElem hi]
    simpa using hp
theorem no_names {t : List Node} {d x : Int} (hx : namesT t x = []) (h : Within t d x) : d = x := by
  cases h with
  | here => rfl
  | down he => rw [hx] at he; cases he
theorem absent {t : List Node} (hg : GoodT t) {x : Int} (hx : kindT t x = 0) (hl : x ≤ 9) : cntT t x 9 = 0 := by
  refine Classical.byContradiction fun hc => ?_
  obtain ⟨i, e, h1, h2, _, _⟩ := cntT_ex (n := 9) (t := t) (ino := x) (by omega)
  have := hg.there i e h1
  rw [h2] at this
  exact this hx

/-- A new name, of a node that is no folder, or of a new one. -/
theorem good_make {t : List Node} (hg : GoodT t) {d x : Int} {nm : ByteArray} {kind mode : Int} (hd : 1 ≤ d) (hl : d ≤ 9) (hk : kindT t d = 2) (hf : (findD (namesT t d) nm).2 = false) (h : (putT t d (nm, x, ())).2 = true)
    (x1 : 1 ≤ x) (x9 : x ≤ 9) (hx : kindT t x = 0) (hkd : kind = 1 ∨ kind = 2) (hm : 0 ≤ mode ∧ mode ≤ 255) : GoodT (setT (putT t d (nm, x, ())).1 x (kind, mode, no, ())) := by
  have hlen := hg.len
  obtain ⟨p1, p2, p3⟩ := put_out hd (by omega) hk hf h
  have hdx : d ≠ x := fun e => by rw [e] at hk; omega
  have hx1 : x ≠ 1 := fun e => by rw [e] at hx; have := hg.root; omega
  obtain ⟨t1, ht1⟩ : ∃ t1, (putT t d (nm, x, ())).1 = t1 := ⟨_, rfl⟩
  rw [ht1] at p2 p3 ⊢
  have hl1 : t1.length = 9 := by rw [p2, setT_len]; exact hlen
  have hn1 : ∀ j, 1 ≤ j → nodeT t1 j = if j = d then withBody (nodeT t d) (ofL (dirL (insD (nm, x, ()) (namesT t d)))) else nodeT t j := fun j hj => by
    rw [p2]; exact nodeT_set hd (by omega) hj
  have hn : ∀ j, 1 ≤ j → nodeT (setT t1 x (kind, mode, no, ())) j = if j = x then (kind, mode, no, ()) else nodeT t1 j := fun j hj => nodeT_set x1 (by omega) hj
  have hkj : ∀ j, 1 ≤ j → kindT (setT t1 x (kind, mode, no, ())) j = if j = x then kind else kindT t j := fun j hj => by
    unfold kindT
    rw [hn j hj]
    split
    · rfl
    · rw [hn1 j hj]
      split
      · rename_i e; rw [e]; rfl
      · rfl
  have hnames : ∀ j, 1 ≤ j → namesT (setT t1 x (kind, mode, no, ())) j = if j = d then insD (nm, x, ()) (namesT t d) else namesT t j := fun j hj => by
    by_cases e : j = d
    · subst e
      rw [if_pos rfl, names_node (t := t1) (setT_len _ _ _) (by rw [hn j hj, if_neg hdx]), p3]
    · rw [if_neg e]
      by_cases e2 : j = x
      · subst e2
        rw [names_file (t := t) (by rw [hx]; decide)]
        rcases hkd with hkd | hkd
        · exact names_file (by rw [hkj j hj, if_pos rfl, hkd]; decide)
        · rw [names_in hj (by rw [setT_len, hl1]; exact x9) (by rw [hkj j hj, if_pos rfl, hkd])]
          unfold bodyT
          rw [hn j hj, if_pos rfl, takeD_no]
      · exact names_node (by rw [setT_len, hl1, hlen]) (by rw [hn j hj, if_neg e2, hn1 j hj, if_neg e])
  obtain ⟨t2, ht2⟩ : ∃ t2, setT t1 x (kind, mode, no, ()) = t2 := ⟨_, rfl⟩
  have hl2 : t2.length = 9 := by rw [← ht2, setT_len]; exact hl1
  rw [ht2] at hn hkj hnames ⊢
  have hc : ∀ ino, cntT t2 ino 9 = cntT t ino 9 + if x = ino then 1 else 0 := fun ino => by
    have := cnt_upd9 (t := t) (t' := t2) ino hd hl (fun j hj hne => by rw [hnames j hj, if_neg hne])
    rw [hnames d hd, if_pos rfl, cntE_ins] at this
    simp only at this
    omega
  have hmem : ∀ j e, e ∈ namesT t2 j → (e ∈ namesT t j ∧ e.2.1 ≠ x) ∨ (j = d ∧ e = (nm, x, ())) := fun j e he => by
    rw [hnames j (names_out he).1] at he
    have key : e ∈ namesT t j → e.2.1 ≠ x := fun h e' => by
      have := hg.there j e h
      rw [e'] at this; exact this hx
    split at he
    · rename_i e1
      subst e1
      rcases mem_ins.1 he with h | h
      · exact .inr ⟨rfl, h⟩
      · exact .inl ⟨h, key h⟩
    · exact .inl ⟨he, key he⟩
  refine ⟨hl2, fun j a b => ?_, fun j a b c => ?_, fun j a b => ?_, fun j a b => ?_, fun j a b c => ?_, ?_, fun j e he => ?_, fun j a b c => ?_, ?_, fun j a b c => ?_, ?_⟩
  · rw [hkj j a]
    split
    · omega
    · exact hg.kind j a b
  · rw [hkj j a] at c
    split at c
    · omega
    · rename_i e
      have ed : j ≠ d := fun e2 => by rw [e2] at c; omega
      rw [hn j a, if_neg e, hn1 j a, if_neg ed]
      exact hg.none j a b c
  · rw [hn j a]
    split
    · exact hm
    · rw [hn1 j a]
      split
      · exact hg.mode d hd hl
      · exact hg.mode j a b
  · unfold bodyT
    rw [hn j a]
    split
    · show (no : ByteArray).size ≤ 120
      decide
    · rw [hn1 j a]
      split
      · show (ofL _).size ≤ 120
        rw [bl_size, bl_ofL]; exact p1.2.2
      · exact hg.body j a b
  · rw [hkj j a] at c
    unfold bodyT
    rw [hn j a]
    split
    · show (takeD no).2 = true
      rw [takeD_no]
    · rename_i e
      rw [if_neg e] at c
      rw [hn1 j a]
      split
      · show (takeD (ofL _)).2 = true
        rw [takeD_put p1]
      · exact hg.dir j a b c
  · rw [hkj 1 (by decide), if_neg (fun e => hx1 e.symm)]; exact hg.root
  · have hr := (okE_out (namesT_ok he)).2
    rw [hkj _ hr.1]
    rcases hmem j e he with ⟨h1, h2⟩ | ⟨_, h2⟩
    · rw [if_neg h2]; exact hg.there j e h1
    · rw [h2, if_pos rfl]; omega
  · rw [hc]
    rw [hkj j (by omega)] at c
    split at c
    · rename_i e; rw [if_pos e.symm]; omega
    · have := hg.named j a b c; omega
  · rw [hc, hg.rootless, if_neg hx1]
  · rw [hc]
    rw [hkj j (by omega)] at c
    split at c
    · rename_i e
      rw [e, if_pos rfl, absent hg hx x9]
    · rename_i e
      rw [if_neg (fun e' => e e'.symm), hg.once j a b c]
  · refine deep_keep (t := t) (d := d) (x := x) (by rw [hl2, hlen]) (fun j e he hk2 => ?_) (fun _ hw => hdx (no_names (names_file (by rw [hx]; decide)) hw)) hg.deep
    have hr := (okE_out (namesT_ok he)).2
    rcases hmem j e he with ⟨h1, h2⟩ | ⟨h1, h2⟩
    · rw [hkj _ hr.1, if_neg h2] at hk2
      exact .inl ⟨h1, hk2⟩
    · exact .inr ⟨h1, by rw [h2]⟩
theorem good_makeT {t : List Node} (hg : GoodT t) (p : ByteArray) (kind mode ino : Int) (own : Bool) : GoodT (makeT t p kind mode ino own).1 := by
  unfold makeT
  obtain ⟨N, hN0⟩ : ∃ N, (if ino = 0 then freeT t else ino) = N := ⟨_, rfl⟩
  rw [hN0]
  split
  · exact hg
  rename_i h1
  split
  · exact hg
  rename_i h2
  split
  · exact hg
  rename_i h3
  split
  · exact hg
  rename_i h4
  split
  · exact hg
  rename_i h5
  split
  · exact hg
  rename_i h6
  split
  · exact hg
  rename_i h7
  obtain ⟨q1, q2, q3, _⟩ := placeT_ok (t := t) (l := (partsS p own).1) (by simpa using h3)
  have hlen := hg.len
  have hN : 1 ≤ N ∧ N ≤ 9 ∧ kindT t N = 0 := by
    split at hN0
    · rename_i e
      subst hN0
      have := free_kind h6
      rw [hlen] at this; exact this
    · rename_i e
      subst hN0
      refine ⟨by omega, by omega, ?_⟩
      exact Classical.byContradiction fun hk => h5 ⟨by omega, .inr hk⟩
  exact good_make hg q1 (by omega) q3 (by simpa using h4) (by simpa using h7) hN.1 hN.2.1 hN.2.2 (by omega) ⟨by omega, by omega⟩
theorem good_linkT {t : List Node} (hg : GoodT t) (f p : ByteArray) (own : Bool) : GoodT (linkT t f p own).1 := by
  unfold linkT
  split
  · exact hg
  rename_i h1
  split
  · exact hg
  rename_i h2
  split
  · exact hg
  rename_i h3
  split
  · exact hg
  rename_i h4
  split
  · exact hg
  rename_i h5
  split
  · exact hg
  rename_i h6
  split
  · exact hg
  rename_i h7
  obtain ⟨q1, q2, q3, _⟩ := placeT_ok (t := t) (l := (partsS p own).1) (by simpa using h5)
  obtain ⟨k0, k1, k2⟩ := good_find hg (by simpa using h2)
  have hlen := hg.len
  obtain ⟨d, hd⟩ : ∃ d, (placeT t (partsS p own).1).1 = d := ⟨_, rfl⟩
  obtain ⟨nm, hnm⟩ : ∃ nm, (placeT t (partsS p own).1).2.1 = nm := ⟨_, rfl⟩
  obtain ⟨x, hx⟩ : ∃ x, (findT t f own).1 = x := ⟨_, rfl⟩
  simp only [hd, hnm, hx] at h3 h6 h7 q1 q2 q3 k0 k1 k2 ⊢
  obtain ⟨p1, p2, p3⟩ := put_out (e := (nm, x, ())) q1 q2 q3 (by simpa using h6) (by simpa using h7)
  obtain ⟨t1, ht1⟩ : ∃ t1, (putT t d (nm, x, ())).1 = t1 := ⟨_, rfl⟩
  rw [ht1] at p2 p3 ⊢
  have hl1 : t1.length = 9 := by rw [p2, setT_len]; exact hlen
  have hn1 : ∀ j, 1 ≤ j → nodeT t1 j = if j = d then withBody (nodeT t d) (ofL (dirL (insD (nm, x, ()) (namesT t d)))) else nodeT t j := fun j hj => by
    rw [p2]; exact nodeT_set q1 q2 hj
  have hkj : ∀ j, 1 ≤ j → kindT t1 j = kindT t j := fun j hj => by
    unfold kindT
    rw [hn1 j hj]
    split
    · rename_i e; rw [e]; rfl
    · rfl
  have hnames : ∀ j, 1 ≤ j → namesT t1 j = if j = d then insD (nm, x, ()) (namesT t d) else namesT t j := fun j hj => by
    by_cases e : j = d
    · subst e; rw [if_pos rfl, p3]
    · rw [if_neg e]; exact names_node (by rw [hl1, hlen]) (by rw [hn1 j hj, if_neg e])
  have hc : ∀ ino, cntT t1 ino 9 = cntT t ino 9 + if x = ino then 1 else 0 := fun ino => by
    have := cnt_upd9 (t := t) (t' := t1) ino q1 (by omega) (fun j hj hne => by rw [hnames j hj, if_neg hne])
    rw [hnames d q1, if_pos rfl, cntE_ins] at this
    simp only at this
    omega
  have hmem : ∀ j e, e ∈ namesT t1 j → e ∈ namesT t j ∨ (j = d ∧ e = (nm, x, ())) := fun j e he => by
    rw [hnames j (names_out he).1] at he
    split at he
    · rename_i e1
      subst e1
      rcases mem_ins.1 he with h | h
      · exact .inr ⟨rfl, h⟩
      · exact .inl h
    · exact .inl he
  have hx1 : x ≠ 1 := fun e => h3 (by rw [e]; exact hg.root)
  refine ⟨hl1, fun j a b => by rw [hkj j a]; exact hg.kind j a b, fun j a b c => ?_, fun j a b => ?_, fun j a b => ?_, fun j a b c => ?_, by rw [hkj 1 (by decide)]; exact hg.root, fun j e he => ?_, fun j a b c => ?_, by rw [hc, hg.rootless, if_neg hx1], fun j a b c => ?_, ?_⟩
  · rw [hkj j a] at c
    have ed : j ≠ d := fun e2 => by rw [e2] at c; omega
    rw [hn1 j a, if_neg ed]; exact hg.none j a b c
  · rw [hn1 j a]
    split
    · exact hg.mode d q1 (by omega)
    · exact hg.mode j a b
  · unfold bodyT
    rw [hn1 j a]
    split
    · show (ofL _).size ≤ 120
      rw [bl_size, bl_ofL]; exact p1.2.2
    · exact hg.body j a b
  · rw [hkj j a] at c
    unfold bodyT
    rw [hn1 j a]
    split
    · show (takeD (ofL _)).2 = true
      rw [takeD_put p1]
    · exact hg.dir j a b c
  · have hr := (okE_out (namesT_ok he)).2
    rw [hkj _ hr.1]
    rcases hmem j e he with h | ⟨_, h⟩
    · exact hg.there j e h
    · rw [h]; exact k0
  · rw [hkj j (by omega)] at c
    rw [hc]; have := hg.named j a b c; omega
  · rw [hkj j (by omega)] at c
    rw [hc, if_neg (fun e => h3 (by rw [e]; exact c)), hg.once j a b c]
  · refine deep_less (t := t) (by rw [hl1, hlen]) (fun j e he hk2 => ?_) hg.deep
    have hr := (okE_out (namesT_ok he)).2
    rw [hkj _ hr.1] at hk2
    rcases hmem j e he with h | ⟨_, h⟩
    · exact ⟨h, hk2⟩
    · rw [h] at hk2; exact absurd hk2 h3
end Go.Proofs.YtodkmhamaahjmaaGreatDoor

/- Names that go keep trees such as may be: plain terms. -/
set_option maxRecDepth 10000
set_option maxHeartbeats 400000
set_option linter.unusedSimpArgs false
set_option linter.unusedVariables false
namespace Go.Proofs.YtodkmhamaahjmaaGreatDoor
open Go.Tm Go.IntWalk

theorem findD_cons (e : Ent) (l : List Ent) (nm : ByteArray) : findD (e :: l) nm = if eqB e.1 nm = true then (e.2.1, true) else findD l nm := by
  unfold findD
  rw [List.find?_cons]
  cases h : eqB e.1 nm <;> simp
theorem cntE_less {nm : ByteArray} {x : Int} (ino : Int) : ∀ {l : List Ent}, Rises l → findD l nm = (x, true) → cntE (l.filter fun e => !eqB e.1 nm) ino + (if x = ino then 1 else 0) = cntE l ino
  | [], _, hf => by cases hf
  | e :: r, hr, hf => by
    obtain ⟨h1, h2⟩ := List.pairwise_cons.1 hr
    rw [findD_cons] at hf
    cases he : eqB e.1 nm with
    | true =>
      rw [he, if_pos rfl] at hf
      injection hf with hf _
      have hnm := eqB_iff.1 he
      have hfr : r.filter (fun e => !eqB e.1 nm) = r := by
        rw [List.filter_eq_self]
        intro a ha
        have := ltB_ne (h1 a ha)
        rw [hnm] at this
        rw [eqB_ne (fun e => this e.symm)]; rfl
      rw [List.filter_cons, he]
      simp only [Bool.not_true, Bool.false_eq_true, if_false]
      rw [hfr, cntE_cons, hf]
    | false =>
      rw [he, if_neg (by decide)] at hf
      rw [List.filter_cons, he]
      simp only [Bool.not_false, if_true]
      rw [cntE_cons, cntE_cons, ← cntE_less ino h2 hf]; omega
theorem less_found {l : List Ent} {nm : ByteArray} {x : Int} (hf : findD l nm = (x, true)) : (lessD l nm).1 = l.filter fun e => !eqB e.1 nm := by
  unfold lessD
  rw [hf, if_pos rfl]

theorem lessD_mem' {l : List Ent} {nm : ByteArray} {x : Ent} (h : x ∈ (lessD l nm).1) : x ∈ l := by
  unfold lessD at h
  split at h
  · exact (List.mem_filter.1 h).1
  · exact h
/-- What is known where a name was cut out. -/
structure Cut (t : List Node) (d : Int) (nm : ByteArray) (x : Int) (t1 : List Node) : Prop where mk ::
  len : t1.length = 9
  node : ∀ j, 1 ≤ j → nodeT t1 j = if j = d then withBody (nodeT t d) (ofL (dirL (lessD (namesT t d) nm).1)) else nodeT t j
  ok : dirOK (lessD (namesT t d) nm).1
  kind : ∀ j, 1 ≤ j → kindT t1 j = kindT t j
  names : ∀ j, 1 ≤ j → namesT t1 j = if j = d then (lessD (namesT t d) nm).1 else namesT t j
  cnt : ∀ ino, cntT t1 ino 9 + (if x = ino then 1 else 0) = cntT t ino 9
  mem : ∀ j e, e ∈ namesT t1 j → e ∈ namesT t j
theorem cut_out {t : List Node} (hg : GoodT t) {d x : Int} {nm : ByteArray} (hd : 1 ≤ d) (hl : d ≤ 9) (hk : kindT t d = 2) (hf : findD (namesT t d) nm = (x, true)) : Cut t d nm x (dropT t d nm) := by
  have hlen := hg.len
  obtain ⟨p1, p2, p3⟩ := drop_out hg (nm := nm) hd hl hk
  have hl1 : (dropT t d nm).length = 9 := by rw [dropT_len]; exact hlen
  have hn : ∀ j, 1 ≤ j → nodeT (dropT t d nm) j = if j = d then withBody (nodeT t d) (ofL (dirL (lessD (namesT t d) nm).1)) else nodeT t j := fun j hj => by
    rw [p2]; exact nodeT_set hd (by omega) hj
  have hkj : ∀ j, 1 ≤ j → kindT (dropT t d nm) j = kindT t j := fun j hj => by
    unfold kindT
    rw [hn j hj]
    split
    · rename_i e; rw [e]; rfl
    · rfl
  have hnames : ∀ j, 1 ≤ j → namesT (dropT t d nm) j = if j = d then (lessD (namesT t d) nm).1 else namesT t j := fun j hj => by
    by_cases e : j = d
    · subst e; rw [if_pos rfl, p3]
    · rw [if_neg e]; exact names_node (by rw [hl1, hlen]) (by rw [hn j hj, if_neg e])
  refine ⟨hl1, hn, p1, hkj, hnames, fun ino => ?_, fun j e he => ?_⟩
  · have h1 := cnt_upd9 (t := t) (t' := dropT t d nm) ino hd hl (fun j hj hne => by rw [hnames j hj, if_neg hne])
    have h2 := cntE_less ino (hg.take hd hl hk).2.1.2.1 hf
    rw [hnames d hd, if_pos rfl, less_found hf] at h1
    omega
  · rw [hnames j (names_out he).1] at he
    split at he
    · rename_i e1; subst e1; exact lessD_mem' he
    · exact he
theorem good_delT {t : List Node} (hg : GoodT t) (p : ByteArray) (own : Bool) : GoodT (delT t p own).1 := by
  unfold delT
  split
  · exact hg
  rename_i h1
  split
  · exact hg
  rename_i h2
  split
  · exact hg
  rename_i h3
  have h1 : (findT t p own).2 = 0 := by simpa using h1
  have hne := find_root h1 h2
  obtain ⟨k0, k1, k2⟩ := good_find hg h1
  obtain ⟨q1, _, q3⟩ := walk_snoc (by rw [← (find_parts h1).2]; exact h1) hne
  rw [← (find_parts h1).2] at q3
  obtain ⟨v1, v2, v3, _⟩ := placeT_ok q1
  have hlen := hg.len
  obtain ⟨d, hd⟩ : ∃ d, (placeT t (partsS p own).1).1 = d := ⟨_, rfl⟩
  obtain ⟨nm, hnm⟩ : ∃ nm, (placeT t (partsS p own).1).2.1 = nm := ⟨_, rfl⟩
  obtain ⟨x, hx⟩ : ∃ x, (findT t p own).1 = x := ⟨_, rfl⟩
  simp only [hd, hnm, hx] at h2 h3 k0 k1 k2 q3 v1 v2 v3 ⊢
  have c := cut_out hg v1 (by omega) v3 q3
  obtain ⟨t1, ht1⟩ : ∃ t1, dropT t d nm = t1 := ⟨_, rfl⟩
  rw [ht1] at c ⊢
  have hx0 : namesT t x = [] := by
    by_cases k : kindT t x = 2
    · rw [names_in k1 (by omega) k]
      have : bodyT t x = no := Classical.byContradiction fun hb => h3 ⟨k, hb⟩
      rw [this, takeD_no]
    · exact names_file k
  have hxd : x ≠ d := fun e => by rw [← e, hx0] at q3; cases q3
  have hdir : ∀ j, 1 ≤ j → j ≤ 9 → kindT t j = 2 → (takeD (bodyT t1 j)).2 = true := fun j a b k => by
    unfold bodyT
    rw [c.node j a]
    split
    · show (takeD (ofL _)).2 = true
      rw [takeD_put c.ok]
    · exact hg.dir j a b k
  have hmode : ∀ j, 1 ≤ j → j ≤ 9 → 0 ≤ (nodeT t1 j).2.1 ∧ (nodeT t1 j).2.1 ≤ 255 := fun j a b => by
    rw [c.node j a]
    split
    · exact hg.mode d v1 (by omega)
    · exact hg.mode j a b
  have hbody : ∀ j, 1 ≤ j → j ≤ 9 → (bodyT t1 j).size ≤ 120 := fun j a b => by
    unfold bodyT
    rw [c.node j a]
    split
    · show (ofL _).size ≤ 120
      rw [bl_size, bl_ofL]; exact c.ok.2.2
    · exact hg.body j a b
  have hnone : ∀ j, 1 ≤ j → j ≤ 9 → kindT t j = 0 → nodeT t1 j = dfltN := fun j a b k => by
    have ed : j ≠ d := fun e2 => by rw [e2] at k; omega
    rw [c.node j a, if_neg ed]; exact hg.none j a b k
  split
  · rename_i h4
    show GoodT (setT t1 x dfltN)
    have h4 : cntT t1 x 9 = 0 := by
      unfold linksT at h4
      rw [if_neg h2, c.len] at h4
      omega
    have hn2 : ∀ j, 1 ≤ j → nodeT (setT t1 x dfltN) j = if j = x then dfltN else nodeT t1 j := fun j hj => nodeT_set k1 (by rw [c.len]; exact k2) hj
    have hk2 : ∀ j, 1 ≤ j → kindT (setT t1 x dfltN) j = if j = x then 0 else kindT t j := fun j hj => by
      unfold kindT
      rw [hn2 j hj]
      split
      · rfl
      · exact c.kind j hj
    have hnm2 : ∀ j, 1 ≤ j → namesT (setT t1 x dfltN) j = namesT t1 j := fun j hj => by
      by_cases e : j = x
      · subst e
        rw [names_file (by rw [hk2 j hj, if_pos rfl]; decide), c.names j hj, if_neg hxd, hx0]
      · exact names_node (setT_len _ _ _) (by rw [hn2 j hj, if_neg e])
    have hc2 : ∀ ino, cntT (setT t1 x dfltN) ino 9 = cntT t1 ino 9 := fun ino => cnt_same ino hnm2 9
    have hmem2 : ∀ j e, e ∈ namesT (setT t1 x dfltN) j → e ∈ namesT t1 j ∧ e.2.1 ≠ x := fun j e he => by
      have ho := names_out he
      rw [hnm2 j ho.1] at he
      refine ⟨he, fun e1 => ?_⟩
      have h9 : j ≤ 9 := by have := ho.2.1; rw [setT_len, c.len] at this; exact this
      have := cntT_mem he (n := 9) (by omega)
      rw [e1] at this; omega
    obtain ⟨t2, ht2⟩ : ∃ t2, setT t1 x dfltN = t2 := ⟨_, rfl⟩
    have hl2 : t2.length = 9 := by rw [← ht2, setT_len]; exact c.len
    rw [ht2] at hn2 hk2 hnm2 hc2 hmem2 ⊢
    have hcc := c.cnt
    refine ⟨hl2, fun j a b => ?_, fun j a b k => ?_, fun j a b => ?_, fun j a b => ?_, fun j a b k => ?_, ?_, fun j e he => ?_, fun j a b k => ?_, ?_, fun j a b k => ?_, ?_⟩
    · rw [hk2 j a]
      split
      · exact .inl rfl
      · exact hg.kind j a b
    · rw [hk2 j a] at k
      rw [hn2 j a]
      split
      · rfl
      · rename_i e; rw [if_neg e] at k; exact hnone j a b k
    · rw [hn2 j a]
      split
      · exact ⟨by decide, by decide⟩
      · exact hmode j a b
    · unfold bodyT
      rw [hn2 j a]
      split
      · decide
      · exact hbody j a b
    · rw [hk2 j a] at k
      unfold bodyT
      rw [hn2 j a]
      split
      · rename_i e; rw [if_pos e] at k; cases k
      · rename_i e; rw [if_neg e] at k; exact hdir j a b k
    · rw [hk2 1 (by decide), if_neg (fun e => h2 e.symm)]; exact hg.root
    · have hr := (okE_out (namesT_ok he)).2
      obtain ⟨m1, m2⟩ := hmem2 j e he
      rw [hk2 _ hr.1, if_neg m2]
      exact hg.there j e (c.mem j e m1)
    · rw [hk2 j (by omega)] at k
      split at k
      · exact absurd rfl k
      · rename_i e
        rw [hc2]
        have := hg.named j a b k
        have := hcc j
        rw [if_neg (fun e' => e e'.symm)] at this
        omega
    · rw [hc2]
      have := hcc 1
      have := hg.rootless
      omega
    · rw [hk2 j (by omega)] at k
      split at k
      · cases k
      · rename_i e
        rw [hc2]
        have := hg.once j a b k
        have := hcc j
        rw [if_neg (fun e' => e e'.symm)] at this
        omega
    · refine deep_less (t := t) (by rw [hl2, hlen]) (fun j e he hk3 => ?_) hg.deep
      have hr := (okE_out (namesT_ok he)).2
      obtain ⟨m1, m2⟩ := hmem2 j e he
      rw [hk2 _ hr.1, if_neg m2] at hk3
      exact ⟨c.mem j e m1, hk3⟩
  · rename_i h4
    show GoodT t1
    have h4 : cntT t1 x 9 ≠ 0 := fun e => h4 (by
      unfold linksT
      rw [if_neg h2, c.len, e]; rfl)
    have hcc := c.cnt
    have hkx : kindT t x ≠ 2 := fun k => by
      have := hg.once x (by omega) k2 k
      have := hcc x
      rw [if_pos rfl] at this
      omega
    refine ⟨c.len, fun j a b => by rw [c.kind j a]; exact hg.kind j a b, fun j a b k => hnone j a b (by rw [← c.kind j a]; exact k), hmode, hbody, fun j a b k => hdir j a b (by rw [← c.kind j a]; exact k), by rw [c.kind 1 (by decide)]; exact hg.root, fun j e he => ?_, fun j a b k => ?_, ?_, fun j a b k => ?_, ?_⟩
    · have hr := (okE_out (namesT_ok he)).2
      rw [c.kind _ hr.1]; exact hg.there j e (c.mem j e he)
    · rw [c.kind j (by omega)] at k
      have := hg.named j a b k
      have := hcc j
      by_cases e : x = j
      · rw [e] at h4; omega
      · rw [if_neg e] at this; omega
    · have := hcc 1
      have := hg.rootless
      omega
    · rw [c.kind j (by omega)] at k
      have := hg.once j a b k
      have := hcc j
      rw [if_neg (fun e => hkx (by rw [e]; exact k))] at this
      omega
    · refine deep_less (t := t) (by rw [c.len, hlen]) (fun j e he hk3 => ?_) hg.deep
      have hr := (okE_out (namesT_ok he)).2
      rw [c.kind _ hr.1] at hk3
      exact ⟨c.mem j e he, hk3⟩
theorem good_moveT {t : List Node} (hg : GoodT t) (f p : ByteArray) (own : Bool) : GoodT (moveT t f p own).1 := by
  unfold moveT
  split
  · exact hg
  rename_i h1
  split
  · exact hg
  rename_i h2
  split
  · exact hg
  rename_i h3
  split
  · exact hg
  rename_i h4
  split
  · exact hg
  rename_i h5
  split
  · exact hg
  rename_i h6
  split
  · exact hg
  rename_i h7
  split
  · exact hg
  rename_i h8
  split
  · exact hg
  rename_i h9
  have h2 : (findT t f own).2 = 0 := by simpa using h2
  have hne := find_root h2 h3
  obtain ⟨k0, k1, k2⟩ := good_find hg h2
  obtain ⟨q1, _, q3⟩ := walk_snoc (by rw [← (find_parts h2).2]; exact h2) hne
  rw [← (find_parts h2).2] at q3
  obtain ⟨v1, v2, v3, _⟩ := placeT_ok q1
  obtain ⟨w1, w2, w3, _⟩ := placeT_ok (t := t) (l := (partsS p own).1) (by simpa using h5)
  have hlen := hg.len
  obtain ⟨U, hU⟩ : ∃ U, (placeT t (partsS f own).1).1 = U := ⟨_, rfl⟩
  obtain ⟨nu, hnu⟩ : ∃ nu, (placeT t (partsS f own).1).2.1 = nu := ⟨_, rfl⟩
  obtain ⟨W, hW⟩ : ∃ W, (placeT t (partsS p own).1).1 = W := ⟨_, rfl⟩
  obtain ⟨nw, hnw⟩ : ∃ nw, (placeT t (partsS p own).1).2.1 = nw := ⟨_, rfl⟩
  obtain ⟨x, hx⟩ : ∃ x, (findT t f own).1 = x := ⟨_, rfl⟩
  simp only [hU, hnu, hW, hnw, hx] at h3 h6 h7 h8 h9 k0 k1 k2 q3 v1 v2 v3 w1 w2 w3 ⊢
  have c := cut_out hg v1 (by omega) v3 q3
  obtain ⟨t1, ht1⟩ : ∃ t1, dropT t U nu = t1 := ⟨_, rfl⟩
  rw [ht1] at c h9 ⊢
  have hf1 : (findD (namesT t1 W) nw).2 = false := by
    have h7 : (findD (namesT t W) nw).2 = false := by simpa using h7
    have hno := (findD_none h7).2
    cases e : (findD (namesT t1 W) nw).2 with
    | false => rfl
    | true =>
      obtain ⟨a, ha, ha2, _⟩ := findD_mem e
      exact absurd ha2 (hno a (c.mem W a ha))
  obtain ⟨p1, p2, p3⟩ := put_out (e := (nw, x, ())) w1 (by rw [c.len]; omega) (by rw [c.kind W w1]; exact w3) hf1 (by simpa using h9)
  obtain ⟨t2, ht2⟩ : ∃ t2, (putT t1 W (nw, x, ())).1 = t2 := ⟨_, rfl⟩
  rw [ht2] at p2 p3 ⊢
  have hl2 : t2.length = 9 := by rw [p2, setT_len]; exact c.len
  have hn2 : ∀ j, 1 ≤ j → nodeT t2 j = if j = W then withBody (nodeT t1 W) (ofL (dirL (insD (nw, x, ()) (namesT t1 W)))) else nodeT t1 j := fun j hj => by
    rw [p2]; exact nodeT_set w1 (by rw [c.len]; omega) hj
  have hk2 : ∀ j, 1 ≤ j → kindT t2 j = kindT t j := fun j hj => by
    rw [← c.kind j hj]
    unfold kindT
    rw [hn2 j hj]
    split
    · rename_i e; rw [e]; rfl
    · rfl
  have hnm2 : ∀ j, 1 ≤ j → namesT t2 j = if j = W then insD (nw, x, ()) (namesT t1 W) else namesT t1 j := fun j hj => by
    by_cases e : j = W
    · subst e; rw [if_pos rfl, p3]
    · rw [if_neg e]; exact names_node (by rw [hl2, c.len]) (by rw [hn2 j hj, if_neg e])
  have hc2 : ∀ ino, cntT t2 ino 9 = cntT t ino 9 := fun ino => by
    have h := cnt_upd9 (t := t1) (t' := t2) ino w1 (by omega) (fun j hj hne => by rw [hnm2 j hj, if_neg hne])
    rw [hnm2 W w1, if_pos rfl, cntE_ins] at h
    have := c.cnt ino
    simp only at h
    omega
  have hmem2 : ∀ j e, e ∈ namesT t2 j → e ∈ namesT t1 j ∨ (j = W ∧ e = (nw, x, ())) := fun j e he => by
    rw [hnm2 j (names_out he).1] at he
    split at he
    · rename_i e1
      subst e1
      rcases mem_ins.1 he with h | h
      · exact .inr ⟨rfl, h⟩
      · exact .inl h
    · exact .inl he
  refine ⟨hl2, fun j a b => by rw [hk2 j a]; exact hg.kind j a b, fun j a b k => ?_, fun j a b => ?_, fun j a b => ?_, fun j a b k => ?_, by rw [hk2 1 (by decide)]; exact hg.root, fun j e he => ?_, fun j a b k => ?_, by rw [hc2]; exact hg.rootless, fun j a b k => ?_, ?_⟩
  · rw [hk2 j a] at k
    have e1 : j ≠ W := fun e => by rw [e] at k; omega
    have e2 : j ≠ U := fun e => by rw [e] at k; omega
    rw [hn2 j a, if_neg e1, c.node j a, if_neg e2]; exact hg.none j a b k
  · have hm1 : ∀ j, 1 ≤ j → j ≤ 9 → 0 ≤ (nodeT t1 j).2.1 ∧ (nodeT t1 j).2.1 ≤ 255 := fun j a b => by
      rw [c.node j a]
      split
      · exact hg.mode U v1 (by omega)
      · exact hg.mode j a b
    rw [hn2 j a]
    split
    · exact hm1 W w1 (by omega)
    · exact hm1 j a b
  · unfold bodyT
    rw [hn2 j a]
    split
    · show (ofL _).size ≤ 120
      rw [bl_size, bl_ofL]; exact p1.2.2
    · rw [c.node j a]
      split
      · show (ofL _).size ≤ 120
        rw [bl_size, bl_ofL]; exact c.ok.2.2
      · exact hg.body j a b
  · rw [hk2 j a] at k
    unfold bodyT
    rw [hn2 j a]
    split
    · show (takeD (ofL _)).2 = true
      rw [takeD_put p1]
    · rw [c.node j a]
      split
      · show (takeD (ofL _)).2 = true
        rw [takeD_put c.ok]
      · exact hg.dir j a b k
  · have hr := (okE_out (namesT_ok he)).2
    rw [hk2 _ hr.1]
    rcases hmem2 j e he with h | ⟨_, h⟩
    · exact hg.there j e (c.mem j e h)
    · rw [h]; exact k0
  · rw [hk2 j (by omega)] at k
    rw [hc2]; exact hg.named j a b k
  · rw [hk2 j (by omega)] at k
    rw [hc2]; exact hg.once j a b k
  · have hless : ∀ i e, e ∈ namesT t1 i → kindT t1 e.2.1 = 2 → e ∈ namesT t i ∧ kindT t e.2.1 = 2 := fun i e he hk => by
      have hr := (okE_out (namesT_ok he)).2
      rw [c.kind _ hr.1] at hk
      exact ⟨c.mem i e he, hk⟩
    have hd1 : allDeep t1 := deep_less (t := t) (by rw [c.len, hlen]) hless hg.deep
    refine deep_keep (t := t1) (d := W) (x := x) (by rw [hl2, c.len]) (fun j e he hk3 => ?_) (fun hkx hw => ?_) hd1
    · have hr := (okE_out (namesT_ok he)).2
      rw [hk2 _ hr.1] at hk3
      rcases hmem2 j e he with h | ⟨h, h'⟩
      · exact .inl ⟨h, by rw [c.kind _ hr.1]; exact hk3⟩
      · exact .inr ⟨h, by rw [h']⟩
    · rw [hk2 x k1] at hkx
      exact h8 ⟨hkx, withinB_yes (within_less (by rw [c.len, hlen]) hless hw)⟩
end Go.Proofs.YtodkmhamaahjmaaGreatDoor
