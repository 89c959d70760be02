/- Changes keep trees such as may be: plain terms. -/
import Derived.Test.YthhjlbpmpffapaaGreatDoorPGood
set_option maxRecDepth 10000
set_option linter.unusedSimpArgs false
set_option linter.unusedVariables false
namespace Go.Proofs.YthhjlbpmpffapaaGreatDoor
open Go.Tm Go.IntWalk

/-! ### Chains downward -/
theorem deep_list {t : List Node} {P : Ent → Prop} : ∀ {l : List Ent}, (∀ e ∈ l, P e → ∃ k, Deep t k e.2.1) → ∃ k, ∀ e ∈ l, P e → Deep t k e.2.1
  | [], _ => ⟨0, fun e he => by cases he⟩
  | x :: l, h => by
    obtain ⟨k, hk⟩ := deep_list (t := t) (P := P) (l := l) fun e he => h e (by simp [he])
    by_cases hx : P x
    · obtain ⟨m, hm⟩ := h x (by simp) hx
      refine ⟨max k m, fun e he hp => ?_⟩
      rcases List.mem_cons.1 he with rfl | he
      · exact hm.le (Nat.le_max_right _ _)
      · exact (hk e he hp).le (Nat.le_max_left _ _)
    · refine ⟨k, fun e he hp => ?_⟩
      rcases List.mem_cons.1 he with rfl | he
      · exact absurd hp hx
      · exact hk e he hp
theorem deep_keep {t t' : List Node} (hl : t'.length = t.length) {d x : Int} (he : ∀ i e, e ∈ namesT t' i → kindT t' e.2.1 = 2 → (e ∈ namesT t i ∧ kindT t e.2.1 = 2) ∨ (i = d ∧ e.2.1 = x))
    (hx : kindT t' x = 2 → ¬ Within t d x) (h : allDeep t) : allDeep t' := by
  have c1 : ∀ k y, Deep t k y → ¬ Within t d y → Deep t' k y := by
    intro k
    induction k with
    | zero => intro y h _; exact h
    | succ k ih =>
      intro y h hw e hm hle hk
      rw [hl] at hle
      rcases he y e hm hk with ⟨h1, h2⟩ | ⟨h1, _⟩
      · exact ih _ (h e h1 hle h2) fun hw' => hw (.down h1 hle h2 hw')
      · subst h1; exact absurd .here hw
  intro y
  obtain ⟨k, hk⟩ := h y
  induction k generalizing y with
  | zero => exact hk.elim
  | succ k ih =>
    obtain ⟨m, hm⟩ := deep_list (t := t') (P := fun e => e.2.1 ≤ (t'.length : Int) ∧ kindT t' e.2.1 = 2) (l := namesT t' y) fun e hm ⟨hle, hk2⟩ => by
      rcases he y e hm hk2 with ⟨h1, h2⟩ | ⟨h1, h2⟩
      · exact ih _ (hk e h1 (by rw [hl] at hle; exact hle) h2)
      · rw [h2] at hk2 ⊢
        obtain ⟨k0, hk0⟩ := h x
        exact ⟨k0, c1 _ _ hk0 (hx hk2)⟩
    exact ⟨m + 1, fun e he hle hk2 => hm e he ⟨hle, hk2⟩⟩
theorem deep_less {t t' : List Node} (hl : t'.length = t.length) (he : ∀ i e, e ∈ namesT t' i → kindT t' e.2.1 = 2 → e ∈ namesT t i ∧ kindT t e.2.1 = 2) (h : allDeep t) : allDeep t' := by
  intro y
  obtain ⟨k, hk⟩ := h y
  refine ⟨k, ?_⟩
  induction k generalizing y with
  | zero => exact hk
  | succ k ih =>
    intro e hm hle hk2
    obtain ⟨h1, h2⟩ := he y e hm hk2
    exact ih _ (hk e h1 (by rw [hl] at hle; exact hle) h2)
theorem within_less {t t' : List Node} (hl : t'.length = t.length) (he : ∀ i e, e ∈ namesT t' i → kindT t' e.2.1 = 2 → e ∈ namesT t i ∧ kindT t e.2.1 = 2) {d x : Int} (h : Within t' d x) : Within t d x := by
  induction h with
  | here => exact .here
  | down h1 h2 h3 _ ih =>
    obtain ⟨h4, h5⟩ := he _ _ h1 h3
    exact .down h4 (by rw [hl] at h2; exact h2) h5 ih

/-! ### A node turns, but no name -/
theorem good_node {t : List Node} (hg : GoodT t) {i : Int} {n : Node} (h1 : 1 ≤ i) (h2 : i ≤ 9) (hk : n.1 = kindT t i) (h0 : kindT t i ≠ 0) (hm : 0 ≤ n.2.1 ∧ n.2.1 ≤ 255) (hb : n.2.2.1.size ≤ 120) (hd : kindT t i = 2 → n.2.2.1 = bodyT t i) : GoodT (setT t i n) := by
  have hl : i ≤ t.length := by rw [hg.len]; exact h2
  have hn : ∀ j, 1 ≤ j → nodeT (setT t i n) j = if j = i then n else nodeT t j := fun j hj => nodeT_set h1 hl hj
  have hkd : ∀ j, 1 ≤ j → kindT (setT t i n) j = kindT t j := fun j hj => by
    unfold kindT
    rw [hn j hj]
    split
    · rename_i e; rw [e]; exact hk
    · rfl
  have hnm : ∀ j, 1 ≤ j → namesT (setT t i n) j = namesT t j := fun j hj => by
    by_cases e : j = i
    · subst e
      by_cases k2 : kindT t j = 2
      · rw [names_in hj (by rw [setT_len]; exact hl) (by rw [hkd j hj]; exact k2), names_in hj hl k2]
        unfold bodyT
        rw [hn j hj, if_pos rfl, hd k2]; rfl
      · rw [names_file (by rw [hkd j hj]; exact k2), names_file k2]
    · exact names_node (setT_len _ _ _) (by rw [hn j hj, if_neg e])
  have hnm' : ∀ j e, e ∈ namesT (setT t i n) j → e ∈ namesT t j := fun j e he => by
    rw [hnm j (names_out he).1] at he; exact he
  have hc : ∀ ino, cntT (setT t i n) ino 9 = cntT t ino 9 := fun ino => cnt_same ino hnm 9
  refine ⟨by rw [setT_len]; exact hg.len, fun j a b => by rw [hkd j a]; exact hg.kind j a b, fun j a b c => ?_, fun j a b => ?_, fun j a b => ?_, fun j a b c => ?_, by rw [hkd 1 (by decide)]; exact hg.root, fun j e he => ?_, fun j a b c => ?_, by rw [hc]; exact hg.rootless, fun j a b c => ?_, ?_⟩
  · rw [hkd j a] at c
    rw [hn j a, if_neg (fun e => h0 (by rw [← e]; exact c))]
    exact hg.none j a b c
  · rw [hn j a]
    split
    · exact hm
    · exact hg.mode j a b
  · unfold bodyT
    rw [hn j a]
    split
    · exact hb
    · exact hg.body j a b
  · rw [hkd j a] at c
    unfold bodyT
    rw [hn j a]
    split
    · rename_i e
      rw [hd (by rw [← e]; exact c), ← e]
      exact hg.dir j a b c
    · exact hg.dir j a b c
  · have := hg.there j e (hnm' j e he)
    have hr := (okE_out (namesT_ok he)).2
    rw [hkd _ hr.1]; exact this
  · rw [hkd j (by omega)] at c
    rw [hc]; exact hg.named j a b c
  · rw [hkd j (by omega)] at c
    rw [hc]; exact hg.once j a b c
  · refine deep_less (setT_len _ _ _) (fun j e he hk2 => ⟨hnm' j e he, ?_⟩) hg.deep
    rw [← hkd _ (okE_out (namesT_ok he)).2.1]; exact hk2
theorem good_mode {t : List Node} (hg : GoodT t) (p : ByteArray) (m : Int) (own : Bool) : GoodT (modeT t p m own).1 := by
  unfold modeT
  split
  · exact hg
  · rename_i h1
    split
    · exact hg
    · rename_i h2
      obtain ⟨k0, k1, k2⟩ := good_find hg (by simpa using h1)
      exact good_node hg k1 k2 rfl k0 ⟨by simp only; omega, by simp only; omega⟩ (hg.body _ k1 k2) (fun _ => rfl)
theorem fileT_out {t : List Node} {p : ByteArray} {own : Bool} (h : (fileT t p own).2 = 0) : (findT t p own).2 = 0 ∧ fileT t p own = findT t p own ∧ kindT t (findT t p own).1 ≠ 2 := by
  unfold fileT at h ⊢
  by_cases hc : (findT t p own).2 = 0 ∧ kindT t (findT t p own).1 = 2
  · rw [if_pos hc] at h; cases h
  · rw [if_neg hc] at h ⊢
    exact ⟨h, rfl, fun hk => hc ⟨h, hk⟩⟩
theorem writeB_size (s : ByteArray) {off : Int} (x : ByteArray) (h0 : 0 ≤ off) (h1 : off ≤ writeN s off x) : (writeB s off x).size = (writeN s off x).toNat := by
  unfold writeB
  rw [size_strOf, over_len, bytesOf_len, longB_size]
  rw [List.length_take, bytesOf_len, bytesOf_len, longB_size]
  omega
theorem good_write {t : List Node} (hg : GoodT t) (p : ByteArray) (off : Int) (x : ByteArray) (own : Bool) : GoodT (writeT t p off x own).1 := by
  unfold writeT
  split
  · exact hg
  rename_i h1
  split
  · exact hg
  rename_i h2
  split
  · exact hg
  rename_i h3
  split
  · exact hg
  have h1 : (fileT t p own).2 = 0 := by simpa using h1
  obtain ⟨f1, f2, f3⟩ := fileT_out h1
  obtain ⟨k0, k1, k2⟩ := good_find hg f1
  rw [f2]
  have hb := hg.body _ k1 k2
  have hn : off ≤ writeN (bodyT t (findT t p own).1) off x ∧ writeN (bodyT t (findT t p own).1) off x ≤ 120 := by unfold writeN; split <;> omega
  refine good_node hg k1 k2 rfl k0 (hg.mode _ k1 k2) ?_ (fun h => absurd h f3)
  show (writeB (bodyT t (findT t p own).1) off x).size ≤ 120
  rw [writeB_size _ _ (by omega) hn.1]; omega
theorem good_size {t : List Node} (hg : GoodT t) (p : ByteArray) (n : Int) (own : Bool) : GoodT (sizeT t p n own).1 := by
  unfold sizeT
  split
  · exact hg
  rename_i h1
  split
  · exact hg
  rename_i h2
  split
  · exact hg
  rename_i h3
  have h1 : (fileT t p own).2 = 0 := by simpa using h1
  obtain ⟨f1, f2, f3⟩ := fileT_out h1
  obtain ⟨k0, k1, k2⟩ := good_find hg f1
  rw [f2]
  refine good_node hg k1 k2 rfl k0 (hg.mode _ k1 k2) ?_ (fun h => absurd h f3)
  show (longB (bodyT t (findT t p own).1) n).size ≤ 120
  rw [longB_size]; omega
end Go.Proofs.YthhjlbpmpffapaaGreatDoor
