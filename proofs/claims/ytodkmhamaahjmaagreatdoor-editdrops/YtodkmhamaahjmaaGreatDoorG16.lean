/- Texts joined: PNames, PDrops, PMakes. -/
import Derived.Test.YtodkmhamaahjmaaGreatDoorG11
import Derived.Test.YtodkmhamaahjmaaGreatDoorG15
/- Which names are in trees made of numbers: plain terms. -/
set_option maxRecDepth 10000
set_option maxHeartbeats 1000000
set_option linter.unusedSimpArgs false
set_option linter.unusedVariables false
namespace Go.Proofs.YtodkmhamaahjmaaGreatDoor
open Go.Tm Go.IntWalk

/-- All names are such. -/
def NamesIn (A : ByteArray → Prop) (t : List Node) : Prop := ∀ i s, (lk t i s).2 = true → A s
theorem names_same {A : ByteArray → Prop} {t u : List Node} (h : NamesIn A t) (hk : ∀ j, 1 ≤ j → namesT u j = namesT t j) : NamesIn A u := fun i s hs => by
  have h1 := (lk_in hs).1
  unfold lk at hs
  rw [hk i h1] at hs
  exact h i s hs
theorem set_same {t : List Node} {i : Int} {n : Node} (h1 : 1 ≤ i) (hl : i ≤ t.length) (hk : n.1 = kindT t i) (hb : kindT t i = 2 → n.2.2.1 = bodyT t i) : ∀ j, 1 ≤ j → namesT (setT t i n) j = namesT t j := fun j hj => by
  by_cases e : j = i
  · subst e
    have hkj : kindT (setT t j n) j = kindT t j := by unfold kindT; rw [nodeT_set h1 hl hj, if_pos rfl]; exact hk
    by_cases h2 : kindT t j = 2
    · rw [names_in hj (by rw [setT_len]; exact hl) (by rw [hkj]; exact h2), names_in hj hl h2]
      have : bodyT (setT t j n) j = bodyT t j := by unfold bodyT; rw [nodeT_set h1 hl hj, if_pos rfl]; exact hb h2
      rw [this]
    · rw [names_file h2, names_file (by rw [hkj]; exact h2)]
  · exact names_node (by rw [setT_len]) (by rw [nodeT_set h1 hl hj, if_neg e])
theorem names_make {A : ByteArray → Prop} {own : Bool} {t : List Node} (hg : GoodT t) (h : NamesIn A t) {p : ByteArray} (hp : ∀ s ∈ (partsS p own).1, A s) (kind mode ino : Int) : NamesIn A (makeT t p kind mode ino own).1 := by
  by_cases h0 : (makeT t p kind mode ino own).2 = 0
  · obtain ⟨a, nm, d, N, h1, h2, h3, h4, h5, h6, h7, h8, h9, h10, h11, m⟩ := makeT_out hg h0
    intro i s hs
    have hi := (lk_in hs).1
    rw [m.look i s hi] at hs
    split at hs
    · rename_i e
      rw [e.2]; exact hp _ (by rw [h1]; simp)
    · exact h i s hs
  · rw [makeT_err h0]; exact h
theorem names_link {A : ByteArray → Prop} {own : Bool} {t : List Node} (hg : GoodT t) (h : NamesIn A t) {p : ByteArray} (hp : ∀ s ∈ (partsS p own).1, A s) (f : ByteArray) : NamesIn A (linkT t f p own).1 := by
  by_cases h0 : (linkT t f p own).2 = 0
  · obtain ⟨a, nm, d, N, h1, h2, h3, h4, h5, h6, h7, h8, h9, h10, h11, h12, h13⟩ := linkT_out hg h0
    intro i s hs
    have hi := (lk_in hs).1
    rw [h12 i s hi] at hs
    split at hs
    · rename_i e
      rw [e.2]; exact hp _ (by rw [h5]; simp)
    · exact h i s hs
  · rw [linkT_err h0]; exact h
theorem lk_zero {t : List Node} {n : Int} (h1 : 1 ≤ n) (hl : n ≤ t.length) {i : Int} {s : ByteArray} (h : (lk (setT t n dfltN) i s).2 = true) : (lk t i s).2 = true := by
  have hi := lk_in h
  have hne : i ≠ n := fun e => by
    subst e
    have := hi.2.2
    unfold kindT at this
    rw [nodeT_set h1 hl hi.1, if_pos rfl] at this
    cases this
  unfold lk at h ⊢
  rwa [names_node (t := t) (setT_len _ _ _) (by rw [nodeT_set h1 hl hi.1, if_neg hne])] at h
theorem names_del {A : ByteArray → Prop} {t : List Node} (hg : GoodT t) (h : NamesIn A t) (p : ByteArray) (own : Bool) : NamesIn A (delT t p own).1 := by
  by_cases h0 : (delT t p own).2 = 0
  · unfold delT at h0 ⊢
    by_cases h1 : (findT t p own).2 ≠ 0
    · rw [if_pos h1] at h0; exact absurd h0 h1
    rw [if_neg h1] at h0 ⊢
    by_cases h2 : (findT t p own).1 = 1
    · rw [if_pos h2] at h0; cases h0
    rw [if_neg h2] at h0 ⊢
    by_cases h3 : kindT t (findT t p own).1 = 2 ∧ bodyT t (findT t p own).1 ≠ no
    · rw [if_pos h3] at h0; cases h0
    rw [if_neg h3]
    have h1 : (findT t p own).2 = 0 := by simpa using h1
    obtain ⟨k0, k1, k2⟩ := good_find hg h1
    obtain ⟨a, nm, d, ea, _, pe, wa, kd, d1, d9, la⟩ := find_place hg h1 h2
    rw [pe]
    obtain ⟨g1, _, g3⟩ := cut_like (nm := nm) hg.len d1 d9 kd (by rw [la])
    have hA : NamesIn A (dropT t d nm) := fun i s hs => by
      have hi := (lk_in hs).1
      rw [g3 i s hi] at hs
      split at hs
      · cases hs
      · exact h i s hs
    split
    · intro i s hs
      exact hA i s (lk_zero k1 (by rw [g1.len]; exact k2) hs)
    · exact hA
  · rw [delT_err h0]; exact h
theorem names_move {A : ByteArray → Prop} {own : Bool} {t : List Node} (hg : GoodT t) (h : NamesIn A t) {p : ByteArray} (hp : ∀ s ∈ (partsS p own).1, A s) (f : ByteArray) : NamesIn A (moveT t f p own).1 := by
  by_cases h0 : (moveT t f p own).2 = 0
  · obtain ⟨m1, m2, m3, m4, m5, m6, m7⟩ := moveT_out h0
    obtain ⟨a, nu, U, ea, _, pu, wu, ku, u1, u9, lu⟩ := find_place hg m3 m4
    obtain ⟨b, nw, W, eb, pw, ww, kw, w1, w9⟩ := place_out hg m5 m6
    rw [pu, pw] at m7
    simp only at m7
    rcases m7 with ⟨_, _, e3⟩ | ⟨hne, hfree, hin, hput, hx⟩
    · rw [e3]; exact h
    rw [hx]
    obtain ⟨c1, _, c3⟩ := cut_like (nm := nu) hg.len u1 u9 ku (by rw [lu])
    have hfree1 : (lk (dropT t U nu) W nw).2 = false := by
      rw [c3 W nw w1]
      split
      · rfl
      · exact hfree
    obtain ⟨d1, _, d3⟩ := put_like (x := (findT t f own).1) c1.len w1 w9 (by rw [c1.kind W w1]; exact kw) hfree1 hput
    intro i s hs
    have hi := (lk_in hs).1
    rw [d3 i s hi] at hs
    split at hs
    · rename_i e
      rw [e.2]; exact hp _ (by rw [eb]; simp)
    · rw [c3 i s hi] at hs
      split at hs
      · cases hs
      · exact h i s hs
  · rw [moveT_err h0]; exact h
theorem names_write {A : ByteArray → Prop} {t : List Node} (h : NamesIn A t) (p : ByteArray) (off : Int) (x : ByteArray) (own : Bool) : NamesIn A (writeT t p off x own).1 := by
  unfold writeT
  split
  · exact h
  rename_i h1
  split
  · exact h
  split
  · exact h
  split
  · exact h
  have h1 : (fileT t p own).2 = 0 := by simpa using h1
  obtain ⟨f1, f2, f3⟩ := fileT_out h1
  have hr := fileT_range h1
  rw [f2] at hr ⊢
  exact names_same h (set_same hr.1 hr.2 rfl (fun h => absurd h f3))
theorem names_size {A : ByteArray → Prop} {t : List Node} (h : NamesIn A t) (p : ByteArray) (n : Int) (own : Bool) : NamesIn A (sizeT t p n own).1 := by
  unfold sizeT
  split
  · exact h
  rename_i h1
  split
  · exact h
  split
  · exact h
  have h1 : (fileT t p own).2 = 0 := by simpa using h1
  obtain ⟨f1, f2, f3⟩ := fileT_out h1
  have hr := fileT_range h1
  rw [f2] at hr ⊢
  exact names_same h (set_same hr.1 hr.2 rfl (fun h => absurd h f3))
theorem names_mode {A : ByteArray → Prop} {t : List Node} (h : NamesIn A t) (p : ByteArray) (m : Int) (own : Bool) : NamesIn A (modeT t p m own).1 := by
  unfold modeT
  split
  · exact h
  rename_i h1
  split
  · exact h
  have h1 : (findT t p own).2 = 0 := by simpa using h1
  have hr := findT_range h1
  exact names_same h (set_same hr.1 hr.2 rfl (fun _ => rfl))
theorem names_done {A : ByteArray → Prop} {t : List Node} (hg : GoodT t) (h : NamesIn A t) (s : Step) (own : Bool) (h1 : ∀ x ∈ (partsS s.2.2.2.2.2.1 own).1, A x) (h2 : ∀ x ∈ (partsS s.2.2.2.2.2.2.1 own).1, A x) : NamesIn A (doneT t s own).1 := by
  unfold doneT
  split
  · exact names_make hg h h1 _ _ _
  split
  · exact names_link hg h h2 _
  split
  · exact names_del hg h _ _
  split
  · exact names_move hg h h2 _
  split
  · exact names_write h _ _ _ _
  split
  · exact names_size h _ _ _
  · exact names_mode h _ _ _
/-- A name of one letter. -/
def letterB (s : ByteArray) : Bool := s.size == 1
theorem path_names (p : Pk) : ∀ s ∈ (partsS (pathP p).1 false).1, letterB s = true := by
  unfold pathP
  generalize (numP p 15).1.toNat = k
  show ∀ s ∈ (partsS (pathL.getD k ⟨#[]⟩) false).1, _
  rcases Nat.lt_or_ge k 15 with h | h
  · have key : ∀ k < 15, ((partsS (pathL.getD k ⟨#[]⟩) false).1.all letterB) = true := by decide +kernel
    exact List.all_eq_true.1 (key k h)
  · rw [List.getD_eq_getElem?_getD, List.getElem?_eq_none (by exact h)]
    exact List.all_eq_true.1 (by decide +kernel : ((partsS ((none : Option ByteArray).getD ⟨#[]⟩) false).1.all letterB) = true)
theorem no_names' : ∀ s ∈ (partsS no false).1, letterB s = true := List.all_eq_true.1 (by decide +kernel : ((partsS no false).1.all letterB) = true)
theorem editP_names (p : Pk) : (∀ x ∈ (partsS (editP p).1.2.2.2.2.2.1 false).1, letterB x = true) ∧ ∀ x ∈ (partsS (editP p).1.2.2.2.2.2.2.1 false).1, letterB x = true := by
  unfold editP
  generalize editK.getD (numP p 12).1.toNat 0 = kd
  unfold editA
  split
  · split <;> exact ⟨path_names _, no_names'⟩
  split
  · exact ⟨path_names _, path_names _⟩
  split
  · exact ⟨path_names _, no_names'⟩
  split
  · exact ⟨path_names _, no_names'⟩
  split
  · exact ⟨path_names _, no_names'⟩
  · exact ⟨path_names _, no_names'⟩
theorem names_grown : ∀ {n : Nat} {p : Pk} {t : List Node}, GoodT t → NamesIn (fun s => letterB s = true) t → NamesIn (fun s => letterB s = true) (grownP n p t).1
  | 0, _, _, _, h => h
  | n + 1, p, t, hg, h => by
    unfold grownP
    split
    · exact h
    · exact names_grown (good_doneT hg _ _) (names_done hg h _ _ (editP_names p).1 (editP_names p).2)
theorem names_new : NamesIn (fun s => letterB s = true) newT := fun i s hs => by
  unfold lk at hs
  rw [newT_names] at hs
  cases hs
end Go.Proofs.YtodkmhamaahjmaaGreatDoor

/- A file is there as long as it has a name: plain terms. -/
set_option maxRecDepth 10000
set_option maxHeartbeats 1000000
set_option linter.unusedSimpArgs false
set_option linter.unusedVariables false
namespace Go.Proofs.YtodkmhamaahjmaaGreatDoor
open Go.Tm Go.IntWalk

def pathN : List ByteArray := [⟨#[47, 110, 48]⟩, ⟨#[47, 110, 49]⟩, ⟨#[47, 110, 50]⟩, ⟨#[47, 110, 51]⟩]
abbrev n0P : ByteArray := ⟨#[47, 110, 48]⟩
def nmP (p : ByteArray) : ByteArray := (partsS p false).1.headD no
def textN : ByteArray := ⟨#[116, 101, 120, 116]⟩
/-- Is a text one of some? -/
def inB (s : ByteArray) (l : List ByteArray) : Bool := l.any fun x => eqB x s
theorem inB_iff {s : ByteArray} {l : List ByteArray} : inB s l = true ↔ s ∈ l := by
  unfold inB
  rw [List.any_eq_true]
  exact ⟨fun ⟨x, hx, e⟩ => by rw [← eqB_iff.1 e]; exact hx, fun h => ⟨s, h, eqB_refl s⟩⟩
theorem n0_in : n0P ∈ pathN := List.mem_cons_self
theorem pathN_parts : ∀ p ∈ pathN, partsS p false = ([nmP p], true) ∧ letterB (nmP p) = false := by
  have h : (pathN.all fun p => (partsS p false).2 && ((partsS p false).1.length == 1) && !letterB (nmP p)) = true := by decide +kernel
  intro p hp
  have := List.all_eq_true.1 h p hp
  rw [Bool.and_eq_true, Bool.and_eq_true] at this
  obtain ⟨⟨h1, h2⟩, h3⟩ := this
  refine ⟨?_, by simpa using h3⟩
  have h2 : (partsS p false).1.length = 1 := by simpa using h2
  obtain ⟨x, hx⟩ := List.length_eq_one_iff.1 h2
  have : nmP p = x := by unfold nmP; rw [hx]; rfl
  rw [this, ← h1, ← hx]
theorem pathN_inj : ∀ p ∈ pathN, ∀ q ∈ pathN, nmP p = nmP q → p = q := by
  have h : (pathN.all fun p => pathN.all fun q => !(eqB (nmP p) (nmP q)) || eqB p q) = true := by decide +kernel
  intro p hp q hq e
  have := List.all_eq_true.1 (List.all_eq_true.1 h p hp) q hq
  rw [e, eqB_refl] at this
  exact eqB_iff.1 (by simpa using this)
theorem map_erase (f : ByteArray → ByteArray) : ∀ (l : List ByteArray) (k : Nat), (l.eraseIdx k).map f = (l.map f).eraseIdx k
  | [], k => by simp
  | x :: r, 0 => rfl
  | x :: r, k + 1 => by rw [List.eraseIdx_cons_succ, List.map_cons, map_erase f r k, List.map_cons, List.eraseIdx_cons_succ]
theorem mem_erase_idx : ∀ {M : List ByteArray} (h : M.Nodup) {k : Nat} (hk : k < M.length) {s : ByteArray}, s ∈ M.eraseIdx k ↔ s ∈ M ∧ s ≠ M[k]
  | x :: r, h, 0, _, s => by
    obtain ⟨h1, h2⟩ := List.nodup_cons.1 h
    rw [List.eraseIdx_cons_zero, List.mem_cons]
    exact ⟨fun hs => ⟨.inr hs, fun e => h1 (by rw [← show s = x from e]; exact hs)⟩, fun ⟨hs, hne⟩ => hs.resolve_left hne⟩
  | x :: r, h, k + 1, hk, s => by
    obtain ⟨h1, h2⟩ := List.nodup_cons.1 h
    have hk' : k < r.length := by simpa using hk
    rw [List.eraseIdx_cons_succ, List.mem_cons, List.mem_cons, mem_erase_idx h2 hk']
    show s = x ∨ s ∈ r ∧ s ≠ r[k] ↔ (s = x ∨ s ∈ r) ∧ s ≠ r[k]
    constructor
    · rintro (e | ⟨a, b⟩)
      · exact ⟨.inl e, fun e2 => h1 (by rw [← e, e2]; exact List.getElem_mem hk')⟩
      · exact ⟨.inr a, b⟩
    · rintro ⟨e | a, b⟩
      · exact .inl e
      · exact .inr ⟨a, b⟩
/-- A tree, and a file that is named so at the root. -/
structure Plus (t x : List Node) (N : Int) (L : List ByteArray) : Prop where mk ::
  base : GoodT t
  good : GoodT x
  bare : NamesIn (fun s => letterB s = true) t
  lo : 1 ≤ N
  hi : N ≤ 9
  free : kindT t N = 0
  node : nodeT x N = (1, 6, textN, ())
  kind : ∀ j, 1 ≤ j → j ≠ N → kindT x j = kindT t j
  mode : ∀ j, 1 ≤ j → j ≠ N → (nodeT x j).2.1 = (nodeT t j).2.1
  file : ∀ j, 1 ≤ j → j ≠ N → kindT t j ≠ 2 → nodeT x j = nodeT t j
  look : ∀ j s, 1 ≤ j → lk x j s = if j = 1 ∧ inB s (L.map nmP) = true then (N, true) else lk t j s
  cnt : cntT x N 9 = L.length
  sub : ∀ p ∈ L, p ∈ pathN
  nodup : (L.map nmP).Nodup
theorem walk_nil (t : List Node) : walkT t 1 [] = (1, 0) := rfl
theorem Plus.ne {t x : List Node} {N : Int} {L : List ByteArray} (h : Plus t x N L) : N ≠ 1 := fun e => by
  have := h.free
  rw [e, h.base.root] at this; cases this
theorem Plus.find {t x : List Node} {N : Int} {L : List ByteArray} (h : Plus t x N L) {p : ByteArray} (hp : p ∈ L) : findT x p false = (N, 0) := by
  obtain ⟨h1, h2⟩ := pathN_parts p (h.sub p hp)
  have hl : lk x 1 (nmP p) = (N, true) := by rw [h.look 1 _ (Int.le_refl _), if_pos ⟨rfl, inB_iff.2 (List.mem_map.2 ⟨p, hp, rfl⟩)⟩]
  rw [find_of (by rw [h1]), h1]
  show walk0 x ([] ++ [nmP p]) = _
  rw [walk_end h.good (walk_nil x) h.good.root, hl]; rfl
theorem Plus.links {t x : List Node} {N : Int} {L : List ByteArray} (h : Plus t x N L) : linksT x N = L.length := by
  unfold linksT
  rw [if_neg h.ne, h.good.len, h.cnt]
theorem bare_free {t : List Node} (hg : GoodT t) (hb : NamesIn (fun s => letterB s = true) t) {s : ByteArray} (hs : letterB s = false) (j : Int) : (lk t j s).2 = false := by
  cases e : (lk t j s).2 with
  | false => rfl
  | true => have := hb j s e; simp only [hs] at this; cases this
theorem place_root {t : List Node} (hg : GoodT t) (s : ByteArray) : placeT t [s] = (1, s, 0) :=
  place_eq (a := []) (by rw [walk0, if_neg (by rw [hg.len]; decide)]; rfl) hg.root
theorem write_text : writeB no 0 textN = textN := by decide +kernel
/-- It is made. -/
theorem plus_made {t : List Node} (hg : GoodT t) (hb : NamesIn (fun s => letterB s = true) t) (h : (makeT t n0P 1 6 0 false).2 = 0) :
    (writeT (makeT t n0P 1 6 0 false).1 n0P 0 textN false).2 = 0 ∧ ∃ N, Plus t (writeT (makeT t n0P 1 6 0 false).1 n0P 0 textN false).1 N [n0P] := by
  obtain ⟨a, nm, d, N, h1, h2, h3, h4, h5, h6, h7, h8, h9, h10, h11, m⟩ := makeT_out hg h
  have gx := good_makeT hg n0P 1 6 0 false
  obtain ⟨q1, q2⟩ := pathN_parts n0P n0_in
  rw [q1] at h1
  injection h1 with h1 _
  obtain ⟨rfl, rfl⟩ : a = [] ∧ nm = nmP n0P := by
    cases a with
    | nil => injection h1 with h1 _; exact ⟨rfl, h1.symm⟩
    | cons b a => injection h1 with _ h1; cases a <;> cases h1
  injection h2 with h2 _
  subst h2
  have hcm : cntT (makeT t n0P 1 6 0 false).1 N 9 = 1 := by
    have h0 : cntT t N 9 = 0 := absent hg h10 h9
    have hn : ∀ j, 1 ≤ j → j ≠ 1 → namesT (makeT t n0P 1 6 0 false).1 j = namesT t j := fun j hj hne => find_ext (names_rise _ _) (names_rise _ _) fun s => by
      have := m.look j s hj
      rw [if_neg (fun h => hne h.1)] at this
      exact this
    have hn1 : namesT (makeT t n0P 1 6 0 false).1 1 = insD (nmP n0P, N, ()) (namesT t 1) := find_ext (names_rise _ _) (ins_rise (e := (nmP n0P, N, ())) (names_rise _ _) h6) fun s => by
      have := m.look 1 s (Int.le_refl _)
      rw [find_ins (e := (nmP n0P, N, ())) h6]
      simp only [true_and] at this
      exact this
    have := cnt_upd9 (t := t) (t' := (makeT t n0P 1 6 0 false).1) N (Int.le_refl 1) (by decide) hn
    rw [hn1, cntE_ins, if_pos rfl] at this
    omega
  obtain ⟨x, hx⟩ : ∃ x, (makeT t n0P 1 6 0 false).1 = x := ⟨_, rfl⟩
  rw [hx] at m gx hcm ⊢
  have hf : findT x n0P false = (N, 0) := by
    have hl : lk x 1 (nmP n0P) = (N, true) := by rw [m.look 1 _ (Int.le_refl _), if_pos ⟨rfl, rfl⟩]
    rw [find_of (by rw [q1]), q1]
    show walk0 x ([] ++ [nmP n0P]) = _
    rw [walk_end gx (walk_nil x) gx.root, hl]; rfl
  have hk : kindT x N = 1 := by unfold kindT; rw [m.node]
  have hft : fileT x n0P false = (N, 0) := by
    unfold fileT
    rw [hf, if_neg (by rw [hk]; simp)]
  have hw : writeT x n0P 0 textN false = (setT x N (1, 6, textN, ()), 0) := by
    unfold writeT
    rw [hft, if_neg (by simp), if_neg (by decide), if_neg (by decide), if_neg (by decide)]
    unfold bodyT
    simp only
    rw [m.node]
    show (setT x N (1, 6, writeB no 0 textN, ()), (0 : Int)) = _
    rw [write_text]
  have gw := good_write gx n0P 0 textN false
  rw [hw] at gw ⊢
  obtain ⟨b1, b2, b3⟩ := set_bare (t := x) (n := (1, 6, textN, ())) m.len h8 h9 (by rw [hk]; decide) (fun h => by cases h)
  refine ⟨rfl, N, ⟨hg, gw, hb, h8, h9, h10, by rw [b2 N h8, if_pos rfl], fun j hj hne => ?_, fun j hj hne => ?_, fun j hj hne hk => ?_, fun j s hj => ?_, ?_, fun q hq => by rw [List.mem_singleton.1 hq]; exact n0_in, List.pairwise_singleton _ _⟩⟩
  · unfold kindT; rw [b2 j hj, if_neg hne]; exact m.kind j hj hne
  · rw [b2 j hj, if_neg hne]; exact m.mode j hj hne
  · rw [b2 j hj, if_neg hne]; exact m.file j hj hne hk
  · unfold lk
    rw [b3 j hj]
    have := m.look j s hj
    unfold lk at this
    rw [this]
    have hin : (inB s ([n0P].map nmP) = true) ↔ s = nmP n0P := by rw [inB_iff]; simp
    by_cases e : j = 1 ∧ s = nmP n0P
    · rw [if_pos e, if_pos ⟨e.1, hin.2 e.2⟩]
    · rw [if_neg e, if_neg (fun h => e ⟨h.1, hin.1 h.2⟩)]
  · rw [cnt_same N b3 9, hcm]; rfl
theorem made_err {t : List Node} (hg : GoodT t) (hb : NamesIn (fun s => letterB s = true) t) (h : (makeT t n0P 1 6 0 false).2 ≠ 0) : (makeT t n0P 1 6 0 false).2 = 8 := by
  obtain ⟨q1, q2⟩ := pathN_parts n0P n0_in
  have hfr := bare_free hg hb q2 1
  have hpl := place_root hg (nmP n0P)
  unfold makeT at h ⊢
  rw [q1] at h ⊢
  rw [hpl] at h ⊢
  rw [if_neg (by simp), if_neg (by simp), if_neg (by simp), if_neg (by simp only; rw [show (findD (namesT t 1) (nmP n0P)).2 = false from hfr]; simp), if_neg (by simp)] at h ⊢
  generalize (if (0 : Int) = 0 then freeT t else 0) = M at h ⊢
  by_cases h6 : M = 0
  · rw [if_pos h6]
  rw [if_neg h6] at h ⊢
  by_cases h7 : (putT t (1, nmP n0P, (0 : Int)).1 ((1, nmP n0P, (0 : Int)).2.1, M, ())).2 = false
  · rw [if_pos h7]
  · rw [if_neg h7] at h; exact absurd rfl h
theorem plus_link {t x : List Node} {N : Int} {L : List ByteArray} (P : Plus t x N L) (h0 : n0P ∈ L) {p : ByteArray} (hp : p ∈ pathN) (hn : p ∉ L) :
    ((linkT x n0P p false).2 = 8) ∨ ((linkT x n0P p false).2 = 0 ∧ Plus t (linkT x n0P p false).1 N (L ++ [p])) := by
  obtain ⟨q1, q2⟩ := pathN_parts p hp
  obtain ⟨r1, _⟩ := pathN_parts n0P n0_in
  have hf := P.find h0
  have hk : kindT x N = 1 := by unfold kindT; rw [P.node]
  have hpl := place_root P.good (nmP p)
  have hnm : nmP p ∉ L.map nmP := fun h => by
    obtain ⟨q, hq, e⟩ := List.mem_map.1 h
    rw [pathN_inj q (P.sub q hq) p hp e] at hq
    exact hn hq
  have hfr : (lk x 1 (nmP p)).2 = false := by
    rw [P.look 1 _ (Int.le_refl _), if_neg (fun h => hnm (inB_iff.1 h.2))]
    exact bare_free P.base P.bare q2 1
  by_cases h : (linkT x n0P p false).2 = 0
  · refine .inr ⟨h, ?_⟩
    obtain ⟨b, nm, d, n, h1, h2, h3, h4, h5, h6, h7, h8, h9, h10, h11, h12, h13⟩ := linkT_out P.good h
    rw [q1] at h5
    injection h5 with h5 _
    obtain ⟨rfl, rfl⟩ : b = [] ∧ nm = nmP p := by
      cases b with
      | nil => injection h5 with h5 _; exact ⟨rfl, h5.symm⟩
      | cons c a => injection h5 with _ h5; cases a <;> cases h5
    injection h6 with h6 _
    subst h6
    rw [hf] at h1
    injection h1 with h1 _
    subst h1
    refine ⟨P.base, good_linkT P.good _ _ _, P.bare, P.lo, P.hi, P.free, ?_, fun j hj hne => (h11.kind j hj).trans (P.kind j hj hne), fun j hj hne => (h11.mode j hj).trans (P.mode j hj hne), fun j hj hne hk2 => ?_, fun j s hj => ?_, ?_, fun q hq => ?_, ?_⟩
    · rw [h11.file N P.lo (by rw [hk]; decide)]; exact P.node
    · rw [h11.file j hj (by rw [P.kind j hj hne]; exact hk2)]; exact P.file j hj hne hk2
    · rw [h12 j s hj, P.look j s hj, List.map_append, List.map_cons, List.map_nil]
      by_cases e : j = 1
      · subst e
        by_cases e2 : s = nmP p
        · rw [if_pos ⟨rfl, e2⟩, if_pos ⟨rfl, inB_iff.2 (by simp [e2])⟩]
        · rw [if_neg (fun h => e2 h.2)]
          by_cases e3 : inB s (L.map nmP) = true
          · rw [if_pos ⟨rfl, e3⟩, if_pos ⟨rfl, inB_iff.2 (List.mem_append.2 (.inl (inB_iff.1 e3)))⟩]
          · rw [if_neg (fun h => e3 h.2), if_neg (fun h => (List.mem_append.1 (inB_iff.1 h.2)).elim (fun h => e3 (inB_iff.2 h)) (fun h => e2 (List.mem_singleton.1 h)))]
      · rw [if_neg (fun h => e h.1), if_neg (fun h => e h.1), if_neg (fun h => e h.1)]
    · rw [h13 N, if_pos rfl, P.cnt, List.length_append]; rfl
    · rcases List.mem_append.1 hq with h | h
      · exact P.sub q h
      · rw [List.mem_singleton.1 h]; exact hp
    · rw [List.map_append, List.map_cons, List.map_nil]
      refine List.nodup_append.2 ⟨P.nodup, by simp, fun a ha b hb e => ?_⟩
      rw [List.mem_singleton.1 hb] at e
      rw [e] at ha; exact hnm ha
  · refine .inl ?_
    unfold linkT at h ⊢
    rw [r1, q1, hf, hpl] at h ⊢
    simp only at h ⊢
    rw [if_neg (by simp), if_neg (by simp), if_neg (by rw [hk]; decide), if_neg (by simp), if_neg (by simp), if_neg (by rw [show (findD (namesT x 1) (nmP p)).2 = false from hfr]; simp)] at h ⊢
    split
    · rfl
    · rename_i h7
      rw [if_neg h7] at h
      exact absurd rfl h
/-- A name goes. -/
theorem plus_drop {t x : List Node} {N : Int} {L : List ByteArray} (P : Plus t x N L) {k : Nat} (hk : k < L.length) :
    (delT x L[k] false).2 = 0 ∧ (2 ≤ L.length → Plus t (delT x L[k] false).1 N (L.eraseIdx k)) ∧ (L.length = 1 → (delT x L[k] false).1 = t) := by
  have hp : L[k] ∈ L := List.getElem_mem hk
  obtain ⟨q1, q2⟩ := pathN_parts L[k] (P.sub _ hp)
  have hf := P.find hp
  have hkN : kindT x N = 1 := by unfold kindT; rw [P.node]
  have hpl := place_root P.good (nmP L[k])
  have hl1 : lk x 1 (nmP L[k]) = (N, true) := by rw [P.look 1 _ (Int.le_refl _), if_pos ⟨rfl, inB_iff.2 (List.mem_map.2 ⟨_, hp, rfl⟩)⟩]
  have hcut := cut_out P.good (d := 1) (x := N) (nm := nmP L[k]) (Int.le_refl _) (by decide) P.good.root hl1
  obtain ⟨g1, _, g3⟩ := cut_like (d := 1) (nm := nmP L[k]) P.good.len (Int.le_refl _) (by decide) P.good.root (by rw [hl1])
  have hc := hcut.cnt N
  rw [if_pos rfl, P.cnt] at hc
  have hgd := good_delT P.good L[k] false
  have hd : delT x L[k] false = if linksT (dropT x 1 (nmP L[k])) N = 0 then (setT (dropT x 1 (nmP L[k])) N dfltN, 0) else (dropT x 1 (nmP L[k]), 0) := by
    unfold delT
    rw [hf, q1, hpl, if_neg (by simp), if_neg P.ne, if_neg (by rw [hkN]; simp)]
  have hlk : linksT (dropT x 1 (nmP L[k])) N = ((L.length - 1 : Nat) : Int) := by
    unfold linksT
    rw [if_neg P.ne, g1.len]
    congr 1; omega
  have hlk2 : ∀ j s, 1 ≤ j → lk (dropT x 1 (nmP L[k])) j s = if j = 1 ∧ inB s ((L.eraseIdx k).map nmP) = true then (N, true) else lk t j s := fun j s hj => by
    rw [g3 j s hj, P.look j s hj]
    by_cases e : j = 1
    · subst e
      have hm : s ∈ (L.eraseIdx k).map nmP ↔ s ∈ L.map nmP ∧ s ≠ nmP L[k] := by
        have h1 : (L.map nmP)[k]'(by rw [List.length_map]; exact hk) = nmP L[k] := List.getElem_map _
        rw [← h1, ← mem_erase_idx P.nodup, map_erase]
      by_cases e2 : s = nmP L[k]
      · rw [if_pos ⟨rfl, e2⟩, if_neg (fun h => (hm.1 (inB_iff.1 h.2)).2 e2), e2]
        exact (lk_none (bare_free P.base P.bare q2 1)).symm
      · rw [if_neg (fun h => e2 h.2)]
        by_cases e3 : inB s (L.map nmP) = true
        · rw [if_pos ⟨rfl, e3⟩, if_pos ⟨rfl, inB_iff.2 (hm.2 ⟨inB_iff.1 e3, e2⟩)⟩]
        · rw [if_neg (fun h => e3 h.2), if_neg (fun h => e3 (inB_iff.2 (hm.1 (inB_iff.1 h.2)).1))]
    · rw [if_neg (fun h => e h.1), if_neg (fun h => e h.1), if_neg (fun h => e h.1)]
  refine ⟨?_, fun h2 => ?_, fun h1 => ?_⟩
  · rw [hd]; split <;> rfl
  · rw [hd, if_neg (by rw [hlk]; omega)] at hgd ⊢
    refine ⟨P.base, hgd, P.bare, P.lo, P.hi, P.free, ?_, fun j hj hne => (g1.kind j hj).trans (P.kind j hj hne), fun j hj hne => (g1.mode j hj).trans (P.mode j hj hne), fun j hj hne hk2 => ?_, hlk2, ?_, fun q hq => P.sub q (List.mem_of_mem_eraseIdx hq), ?_⟩
    · rw [g1.file N P.lo (by rw [hkN]; decide)]; exact P.node
    · rw [g1.file j hj (by rw [P.kind j hj hne]; exact hk2)]; exact P.file j hj hne hk2
    · rw [List.length_eraseIdx_of_lt hk]; show cntT (dropT x 1 (nmP L[k])) N 9 = _; omega
    · exact List.Nodup.sublist (List.Sublist.map _ (List.eraseIdx_sublist _ _)) P.nodup
  · have hk0 : k = 0 := by omega
    have hnil : L.eraseIdx k = [] := List.eq_nil_of_length_eq_zero (by rw [List.length_eraseIdx_of_lt hk]; omega)
    rw [hnil] at hlk2
    rw [hd, if_pos (by rw [hlk, h1]; rfl)] at hgd ⊢
    have hs : ∀ j, 1 ≤ j → nodeT (setT (dropT x 1 (nmP L[k])) N dfltN) j = if j = N then dfltN else nodeT (dropT x 1 (nmP L[k])) j := fun j hj => nodeT_set P.lo (by rw [g1.len]; exact P.hi) hj
    have ht0 := P.base.none N P.lo P.hi P.free
    obtain ⟨b1, b2, b3⟩ := set_bare (t := dropT x 1 (nmP L[k])) (n := dfltN) g1.len P.lo P.hi (by rw [g1.kind N P.lo, hkN]; decide) (fun h => by cases h)
    refine tree_ext P.base hgd (fun j a b => ?_) (fun j a b c => ?_) fun j s a b => ?_
    · by_cases e : j = N
      · subst e
        unfold kindT
        rw [hs j a, if_pos rfl, ht0]; exact ⟨rfl, rfl⟩
      · unfold kindT
        rw [hs j a, if_neg e]
        exact ⟨(g1.kind j a).trans (P.kind j a e), (g1.mode j a).trans (P.mode j a e)⟩
    · by_cases e : j = N
      · subst e
        unfold bodyT
        rw [hs j a, if_pos rfl, ht0]
      · unfold bodyT
        rw [hs j a, if_neg e, g1.file j a (by rw [P.kind j a e]; exact c), P.file j a e c]
    · unfold lk
      rw [b3 j a]
      have := hlk2 j s a
      unfold lk at this
      rw [this, if_neg (by simp [inB])]
end Go.Proofs.YtodkmhamaahjmaaGreatDoor

/- What is made is there, under the least number that is free: plain terms. -/
set_option maxRecDepth 10000
set_option maxHeartbeats 1000000
set_option linter.unusedSimpArgs false
set_option linter.unusedVariables false
namespace Go.Proofs.YtodkmhamaahjmaaGreatDoor
open Go.Tm Go.IntWalk
abbrev newP : ByteArray := ⟨#[47, 110, 101, 119]⟩
theorem new_parts : ∃ nm, partsS newP false = ([nm], true) ∧ letterB nm = false := by
  have h : ((partsS newP false).2 && ((partsS newP false).1.length == 1) && !letterB (nmP newP)) = true := by decide +kernel
  rw [Bool.and_eq_true, Bool.and_eq_true] at h
  obtain ⟨⟨h1, h2⟩, h3⟩ := h
  have h2 : (partsS newP false).1.length = 1 := by simpa using h2
  obtain ⟨x, hx⟩ := List.length_eq_one_iff.1 h2
  have : nmP newP = x := by unfold nmP; rw [hx]; rfl
  exact ⟨x, by rw [← h1, ← hx], by rw [← this]; simpa using h3⟩
theorem make_new {t : List Node} (hg : GoodT t) (hb : NamesIn (fun s => letterB s = true) t) {kind mode ino : Int} (hk : kind = 1 ∨ kind = 2) (hm : 0 ≤ mode ∧ mode ≤ 255) (hi : 0 ≤ ino ∧ ino ≤ 9) :
    ((makeT t newP kind mode ino false).2 ≠ 0 → (makeT t newP kind mode ino false).1 = t ∧ ((makeT t newP kind mode ino false).2 = 8 ∨ ((makeT t newP kind mode ino false).2 = 3 ∧ 0 < ino ∧ kindT t ino ≠ 0))) ∧
    ((makeT t newP kind mode ino false).2 = 0 → findT (makeT t newP kind mode ino false).1 newP false = ((if ino = 0 then freeT t else ino), 0) ∧ (makeT t newP kind mode ino false).1.length = 9 ∧ 1 ≤ (if ino = 0 then freeT t else ino) ∧ (if ino = 0 then freeT t else ino) ≤ 9 ∧ kindT t (if ino = 0 then freeT t else ino) = 0 ∧ nodeT (makeT t newP kind mode ino false).1 (if ino = 0 then freeT t else ino) = (kind, mode, no, ())) := by
  obtain ⟨nm, q1, q2⟩ := new_parts
  refine ⟨fun h => ⟨makeT_err h, ?_⟩, fun h => ?_⟩
  · have hfr := bare_free hg hb q2 1
    have hpl := place_root hg nm
    have hlen := hg.len
    unfold makeT at h ⊢
    rw [q1] at h ⊢
    rw [hpl] at h ⊢
    have hc0 : ¬ ((([nm], true) : List ByteArray × Bool).2 = false ∨ (kind ≠ 1 ∧ kind ≠ 2) ∨ mode < 0 ∨ 255 < mode ∨ ino < 0 ∨ 9 < ino) := by
      rintro (h | h | h | h | h | h)
      · cases h
      all_goals omega
    rw [if_neg hc0, if_neg (by simp), if_neg (by simp), if_neg (by simp only; rw [show (findD (namesT t 1) nm).2 = false from hfr]; simp)] at h ⊢
    by_cases h5 : 0 < ino ∧ ((t.length : Int) < ino ∨ kindT t ino ≠ 0)
    · rw [if_pos h5]
      exact .inr ⟨rfl, h5.1, h5.2.resolve_left (by omega)⟩
    · rw [if_neg h5] at h ⊢
      generalize (if ino = 0 then freeT t else ino) = M at h ⊢
      by_cases h6 : M = 0
      · rw [if_pos h6]; exact .inl rfl
      rw [if_neg h6] at h ⊢
      by_cases h7 : (putT t (1, nm, (0 : Int)).1 ((1, nm, (0 : Int)).2.1, M, ())).2 = false
      · rw [if_pos h7]; exact .inl rfl
      · rw [if_neg h7] at h; exact absurd rfl h
  · obtain ⟨a, nm', d, N, h1, h2, h3, h4, h5, h6, h7, h8, h9, h10, h11, m⟩ := makeT_out hg h
    have gx := good_makeT hg newP kind mode ino false
    rw [q1] at h1
    injection h1 with h1 _
    obtain ⟨rfl, rfl⟩ : a = [] ∧ nm' = nm := by
      cases a with
      | nil => injection h1 with h1 _; exact ⟨rfl, h1.symm⟩
      | cons b a => injection h1 with _ h1; cases a <;> cases h1
    injection h2 with h2 _
    subst h2
    rw [← h7]
    refine ⟨?_, m.len, h8, h9, h10, m.node⟩
    have hl : lk (makeT t newP kind mode ino false).1 1 nm' = (N, true) := by rw [m.look 1 _ (Int.le_refl _), if_pos ⟨rfl, rfl⟩]
    rw [find_of (by rw [q1]), q1]
    show walk0 _ ([] ++ [nm']) = _
    rw [walk_end gx (walk_nil _) gx.root, hl]; rfl
/-- The least number that is free, from above. -/
def leastS (t : List Node) : Nat → Int
  | 0 => 0
  | s + 1 => if kindT t (9 - (s : Int)) = 0 then 9 - (s : Int) else leastS t s
theorem leastS_spec (t : List Node) : ∀ s : Nat, s ≤ 9 → (leastS t s = 0 ∧ ∀ j : Int, 10 - (s : Int) ≤ j → j ≤ 9 → kindT t j ≠ 0) ∨ (10 - (s : Int) ≤ leastS t s ∧ leastS t s ≤ 9 ∧ kindT t (leastS t s) = 0 ∧ ∀ j : Int, 10 - (s : Int) ≤ j → j < leastS t s → kindT t j ≠ 0)
  | 0, _ => .inl ⟨rfl, fun j h1 h2 => by omega⟩
  | s + 1, h => by
    unfold leastS
    by_cases hk : kindT t (9 - (s : Int)) = 0
    · rw [if_pos hk]
      exact .inr ⟨by omega, by omega, hk, fun j h1 h2 => by omega⟩
    · rw [if_neg hk]
      rcases leastS_spec t s (by omega) with ⟨h1, h2⟩ | ⟨h1, h2, h3, h4⟩
      · refine .inl ⟨h1, fun j a b => ?_⟩
        by_cases e : j = 9 - (s : Int)
        · rw [e]; exact hk
        · exact h2 j (by omega) b
      · refine .inr ⟨by omega, h2, h3, fun j a b => ?_⟩
        by_cases e : j = 9 - (s : Int)
        · rw [e]; exact hk
        · exact h4 j (by omega) b
theorem free_spec {t : List Node} (h9 : t.length = 9) : (freeT t = 0 ∧ ∀ j : Int, 1 ≤ j → j ≤ 9 → kindT t j ≠ 0) ∨ (1 ≤ freeT t ∧ freeT t ≤ 9 ∧ kindT t (freeT t) = 0 ∧ ∀ j : Int, 1 ≤ j → j < freeT t → kindT t j ≠ 0) := by
  have hat : ∀ j : Nat, (hj : j < t.length) → kindT t ((j : Int) + 1) = t[j].1 := fun j hj => by
    unfold kindT nodeT
    rw [show ((j : Int) + 1 - 1).toNat = j by omega, List.getD_eq_getElem?_getD, List.getElem?_eq_getElem hj]; rfl
  unfold freeT
  cases h : t.findIdx? fun n => n.1 == 0 with
  | none =>
    rw [List.findIdx?_eq_none_iff] at h
    refine .inl ⟨rfl, fun j h1 h2 => ?_⟩
    obtain ⟨i, hi⟩ : ∃ i : Nat, j = (i : Int) + 1 := ⟨(j - 1).toNat, by omega⟩
    rw [hi, hat i (by omega)]
    have := h _ (List.getElem_mem (show i < t.length by omega))
    simpa using this
  | some i =>
    rw [List.findIdx?_eq_some_iff_getElem] at h
    obtain ⟨h1, h2, h3⟩ := h
    refine .inr ⟨by simp only; omega, by simp only; omega, ?_, fun j a b => ?_⟩
    · simp only
      rw [hat i h1]; simpa using h2
    · simp only at b
      obtain ⟨i', hi⟩ : ∃ i' : Nat, j = (i' : Int) + 1 := ⟨(j - 1).toNat, by omega⟩
      rw [hi, hat i' (by omega)]
      have := h3 i' (by omega)
      simpa using this
theorem least_free {t : List Node} (h9 : t.length = 9) : leastS t 9 = freeT t := by
  rcases leastS_spec t 9 (Nat.le_refl _) with ⟨a1, a2⟩ | ⟨a1, a2, a3, a4⟩ <;> rcases free_spec h9 with ⟨b1, b2⟩ | ⟨b1, b2, b3, b4⟩
  · rw [a1, b1]
  · exact absurd b3 (a2 _ (by omega) b2)
  · exact absurd a3 (b2 _ (by omega) a2)
  · rcases Int.lt_trichotomy (leastS t 9) (freeT t) with h | h | h
    · exact absurd a3 (b4 _ (by omega) h)
    · exact h
    · exact absurd b3 (a4 _ (by omega) h)
end Go.Proofs.YtodkmhamaahjmaaGreatDoor
