/- Which names are in trees made of numbers: plain terms. -/
import Derived.Test.YtodkmhamaahjmaaGreatDoorG11
import Derived.Test.YtodkmhamaahjmaaGreatDoorG15
set_option maxRecDepth 10000
set_option maxHeartbeats 1000000
set_option linter.unusedSimpArgs false
set_option linter.unusedVariables false
namespace Go.Proofs.YtodkmhamaahjmaaGreatDoor
open Go.Tm Go.IntWalk

/-- All names are such. -/
def NamesIn (A : ByteArray → Prop) (t : List Node) : Prop := ∀ i s, (lk t i s).2 = true → A s
theorem names_same {A : ByteArray → Prop} {t u : List Node} (h : NamesIn A t) (hk : ∀ j, 1 ≤ j → namesT u j = namesT t j) : NamesIn A u := fun i s hs => by
  have h1 := (lk_in hs).1
  unfold lk at hs
  rw [hk i h1] at hs
  exact h i s hs
theorem set_same {t : List Node} {i : Int} {n : Node} (h1 : 1 ≤ i) (hl : i ≤ t.length) (hk : n.1 = kindT t i) (hb : kindT t i = 2 → n.2.2.1 = bodyT t i) : ∀ j, 1 ≤ j → namesT (setT t i n) j = namesT t j := fun j hj => by
  by_cases e : j = i
  · subst e
    have hkj : kindT (setT t j n) j = kindT t j := by unfold kindT; rw [nodeT_set h1 hl hj, if_pos rfl]; exact hk
    by_cases h2 : kindT t j = 2
    · rw [names_in hj (by rw [setT_len]; exact hl) (by rw [hkj]; exact h2), names_in hj hl h2]
      have : bodyT (setT t j n) j = bodyT t j := by unfold bodyT; rw [nodeT_set h1 hl hj, if_pos rfl]; exact hb h2
      rw [this]
    · rw [names_file h2, names_file (by rw [hkj]; exact h2)]
  · exact names_node (by rw [setT_len]) (by rw [nodeT_set h1 hl hj, if_neg e])
theorem names_make {A : ByteArray → Prop} {own : Bool} {t : List Node} (hg : GoodT t) (h : NamesIn A t) {p : ByteArray} (hp : ∀ s ∈ (partsS p own).1, A s) (kind mode ino : Int) : NamesIn A (makeT t p kind mode ino own).1 := by
  by_cases h0 : (makeT t p kind mode ino own).2 = 0
  · obtain ⟨a, nm, d, N, h1, h2, h3, h4, h5, h6, h7, h8, h9, h10, h11, m⟩ := makeT_out hg h0
    intro i s hs
    have hi := (lk_in hs).1
    rw [m.look i s hi] at hs
    split at hs
    · rename_i e
      rw [e.2]; exact hp _ (by rw [h1]; simp)
    · exact h i s hs
  · rw [makeT_err h0]; exact h
theorem names_link {A : ByteArray → Prop} {own : Bool} {t : List Node} (hg : GoodT t) (h : NamesIn A t) {p : ByteArray} (hp : ∀ s ∈ (partsS p own).1, A s) (f : ByteArray) : NamesIn A (linkT t f p own).1 := by
  by_cases h0 : (linkT t f p own).2 = 0
  · obtain ⟨a, nm, d, N, h1, h2, h3, h4, h5, h6, h7, h8, h9, h10, h11, h12, h13⟩ := linkT_out hg h0
    intro i s hs
    have hi := (lk_in hs).1
    rw [h12 i s hi] at hs
    split at hs
    · rename_i e
      rw [e.2]; exact hp _ (by rw [h5]; simp)
    · exact h i s hs
  · rw [linkT_err h0]; exact h
theorem lk_zero {t : List Node} {n : Int} (h1 : 1 ≤ n) (hl : n ≤ t.length) {i : Int} {s : ByteArray} (h : (lk (setT t n dfltN) i s).2 = true) : (lk t i s).2 = true := by
  have hi := lk_in h
  have hne : i ≠ n := fun e => by
    subst e
    have := hi.2.2
    unfold kindT at this
    rw [nodeT_set h1 hl hi.1, if_pos rfl] at this
    cases this
  unfold lk at h ⊢
  rwa [names_node (t := t) (setT_len _ _ _) (by rw [nodeT_set h1 hl hi.1, if_neg hne])] at h
theorem names_del {A : ByteArray → Prop} {t : List Node} (hg : GoodT t) (h : NamesIn A t) (p : ByteArray) (own : Bool) : NamesIn A (delT t p own).1 := by
  by_cases h0 : (delT t p own).2 = 0
  · unfold delT at h0 ⊢
    by_cases h1 : (findT t p own).2 ≠ 0
    · rw [if_pos h1] at h0; exact absurd h0 h1
    rw [if_neg h1] at h0 ⊢
    by_cases h2 : (findT t p own).1 = 1
    · rw [if_pos h2] at h0; cases h0
    rw [if_neg h2] at h0 ⊢
    by_cases h3 : kindT t (findT t p own).1 = 2 ∧ bodyT t (findT t p own).1 ≠ no
    · rw [if_pos h3] at h0; cases h0
    rw [if_neg h3]
    have h1 : (findT t p own).2 = 0 := by simpa using h1
    obtain ⟨k0, k1, k2⟩ := good_find hg h1
    obtain ⟨a, nm, d, ea, _, pe, wa, kd, d1, d9, la⟩ := find_place hg h1 h2
    rw [pe]
    obtain ⟨g1, _, g3⟩ := cut_like (nm := nm) hg.len d1 d9 kd (by rw [la])
    have hA : NamesIn A (dropT t d nm) := fun i s hs => by
      have hi := (lk_in hs).1
      rw [g3 i s hi] at hs
      split at hs
      · cases hs
      · exact h i s hs
    split
    · intro i s hs
      exact hA i s (lk_zero k1 (by rw [g1.len]; exact k2) hs)
    · exact hA
  · rw [delT_err h0]; exact h
theorem names_move {A : ByteArray → Prop} {own : Bool} {t : List Node} (hg : GoodT t) (h : NamesIn A t) {p : ByteArray} (hp : ∀ s ∈ (partsS p own).1, A s) (f : ByteArray) : NamesIn A (moveT t f p own).1 := by
  by_cases h0 : (moveT t f p own).2 = 0
  · obtain ⟨m1, m2, m3, m4, m5, m6, m7⟩ := moveT_out h0
    obtain ⟨a, nu, U, ea, _, pu, wu, ku, u1, u9, lu⟩ := find_place hg m3 m4
    obtain ⟨b, nw, W, eb, pw, ww, kw, w1, w9⟩ := place_out hg m5 m6
    rw [pu, pw] at m7
    simp only at m7
    rcases m7 with ⟨_, _, e3⟩ | ⟨hne, hfree, hin, hput, hx⟩
    · rw [e3]; exact h
    rw [hx]
    obtain ⟨c1, _, c3⟩ := cut_like (nm := nu) hg.len u1 u9 ku (by rw [lu])
    have hfree1 : (lk (dropT t U nu) W nw).2 = false := by
      rw [c3 W nw w1]
      split
      · rfl
      · exact hfree
    obtain ⟨d1, _, d3⟩ := put_like (x := (findT t f own).1) c1.len w1 w9 (by rw [c1.kind W w1]; exact kw) hfree1 hput
    intro i s hs
    have hi := (lk_in hs).1
    rw [d3 i s hi] at hs
    split at hs
    · rename_i e
      rw [e.2]; exact hp _ (by rw [eb]; simp)
    · rw [c3 i s hi] at hs
      split at hs
      · cases hs
      · exact h i s hs
  · rw [moveT_err h0]; exact h
theorem names_write {A : ByteArray → Prop} {t : List Node} (h : NamesIn A t) (p : ByteArray) (off : Int) (x : ByteArray) (own : Bool) : NamesIn A (writeT t p off x own).1 := by
  unfold writeT
  split
  · exact h
  rename_i h1
  split
  · exact h
  split
  · exact h
  split
  · exact h
  have h1 : (fileT t p own).2 = 0 := by simpa using h1
  obtain ⟨f1, f2, f3⟩ := fileT_out h1
  have hr := fileT_range h1
  rw [f2] at hr ⊢
  exact names_same h (set_same hr.1 hr.2 rfl (fun h => absurd h f3))
theorem names_size {A : ByteArray → Prop} {t : List Node} (h : NamesIn A t) (p : ByteArray) (n : Int) (own : Bool) : NamesIn A (sizeT t p n own).1 := by
  unfold sizeT
  split
  · exact h
  rename_i h1
  split
  · exact h
  split
  · exact h
  have h1 : (fileT t p own).2 = 0 := by simpa using h1
  obtain ⟨f1, f2, f3⟩ := fileT_out h1
  have hr := fileT_range h1
  rw [f2] at hr ⊢
  exact names_same h (set_same hr.1 hr.2 rfl (fun h => absurd h f3))
theorem names_mode {A : ByteArray → Prop} {t : List Node} (h : NamesIn A t) (p : ByteArray) (m : Int) (own : Bool) : NamesIn A (modeT t p m own).1 := by
  unfold modeT
  split
  · exact h
  rename_i h1
  split
  · exact h
  have h1 : (findT t p own).2 = 0 := by simpa using h1
  have hr := findT_range h1
  exact names_same h (set_same hr.1 hr.2 rfl (fun _ => rfl))
theorem names_done {A : ByteArray → Prop} {t : List Node} (hg : GoodT t) (h : NamesIn A t) (s : Step) (own : Bool) (h1 : ∀ x ∈ (partsS s.2.2.2.2.2.1 own).1, A x) (h2 : ∀ x ∈ (partsS s.2.2.2.2.2.2.1 own).1, A x) : NamesIn A (doneT t s own).1 := by
  unfold doneT
  split
  · exact names_make hg h h1 _ _ _
  split
  · exact names_link hg h h2 _
  split
  · exact names_del hg h _ _
  split
  · exact names_move hg h h2 _
  split
  · exact names_write h _ _ _ _
  split
  · exact names_size h _ _ _
  · exact names_mode h _ _ _
/-- A name of one letter. -/
def letterB (s : ByteArray) : Bool := s.size == 1
theorem path_names (p : Pk) : ∀ s ∈ (partsS (pathP p).1 false).1, letterB s = true := by
  unfold pathP
  generalize (numP p 15).1.toNat = k
  show ∀ s ∈ (partsS (pathL.getD k ⟨#[]⟩) false).1, _
  rcases Nat.lt_or_ge k 15 with h | h
  · have key : ∀ k < 15, ((partsS (pathL.getD k ⟨#[]⟩) false).1.all letterB) = true := by decide +kernel
    exact List.all_eq_true.1 (key k h)
  · rw [List.getD_eq_getElem?_getD, List.getElem?_eq_none (by exact h)]
    exact List.all_eq_true.1 (by decide +kernel : ((partsS ((none : Option ByteArray).getD ⟨#[]⟩) false).1.all letterB) = true)
theorem no_names' : ∀ s ∈ (partsS no false).1, letterB s = true := List.all_eq_true.1 (by decide +kernel : ((partsS no false).1.all letterB) = true)
theorem editP_names (p : Pk) : (∀ x ∈ (partsS (editP p).1.2.2.2.2.2.1 false).1, letterB x = true) ∧ ∀ x ∈ (partsS (editP p).1.2.2.2.2.2.2.1 false).1, letterB x = true := by
  unfold editP
  generalize editK.getD (numP p 12).1.toNat 0 = kd
  unfold editA
  split
  · split <;> exact ⟨path_names _, no_names'⟩
  split
  · exact ⟨path_names _, path_names _⟩
  split
  · exact ⟨path_names _, no_names'⟩
  split
  · exact ⟨path_names _, no_names'⟩
  split
  · exact ⟨path_names _, no_names'⟩
  · exact ⟨path_names _, no_names'⟩
theorem names_grown : ∀ {n : Nat} {p : Pk} {t : List Node}, GoodT t → NamesIn (fun s => letterB s = true) t → NamesIn (fun s => letterB s = true) (grownP n p t).1
  | 0, _, _, _, h => h
  | n + 1, p, t, hg, h => by
    unfold grownP
    split
    · exact h
    · exact names_grown (good_doneT hg _ _) (names_done hg h _ _ (editP_names p).1 (editP_names p).2)
theorem names_new : NamesIn (fun s => letterB s = true) newT := fun i s hs => by
  unfold lk at hs
  rw [newT_names] at hs
  cases hs
end Go.Proofs.YtodkmhamaahjmaaGreatDoor
