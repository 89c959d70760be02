/- Texts joined: PEdge, PMove, PMove2, PMade. -/
import Derived.Test.YtodkmhamaahjmaaGreatDoorG10
/- Changes of trees, by what is looked up: plain terms. -/
set_option maxRecDepth 10000
set_option maxHeartbeats 1000000
set_option linter.unusedSimpArgs false
set_option linter.unusedVariables false
namespace Go.Proofs.YtodkmhamaahjmaaGreatDoor
open Go.Tm Go.IntWalk

theorem rise_eq : ∀ {l m : List Ent}, Rises l → Rises m → (∀ e, e ∈ l ↔ e ∈ m) → l = m
  | [], [], _, _, _ => rfl
  | [], b :: m, _, _, h => by have := (h b).2 (by simp); cases this
  | a :: l, [], _, _, h => by have := (h a).1 (by simp); cases this
  | a :: l, b :: m, h1, h2, h => by
    obtain ⟨a1, a2⟩ := List.pairwise_cons.1 h1
    obtain ⟨b1, b2⟩ := List.pairwise_cons.1 h2
    have hab : a = b := by
      rcases List.mem_cons.1 ((h a).1 (by simp)) with e | e
      · exact e
      · rcases List.mem_cons.1 ((h b).2 (by simp)) with e2 | e2
        · exact e2.symm
        · have := ltB_asymm (a1 b e2)
          rw [b1 a e] at this; cases this
    subst hab
    rw [rise_eq a2 b2 fun e => ⟨fun he => ?_, fun he => ?_⟩]
    · rcases List.mem_cons.1 ((h e).1 (by simp [he])) with e2 | e2
      · subst e2
        have := a1 e he
        rw [ltB_irrefl] at this; cases this
      · exact e2
    · rcases List.mem_cons.1 ((h e).2 (by simp [he])) with e2 | e2
      · subst e2
        have := b1 e he
        rw [ltB_irrefl] at this; cases this
      · exact e2
theorem find_mem : ∀ {l : List Ent}, Rises l → ∀ {e : Ent}, e ∈ l → findD l e.1 = (e.2.1, true)
  | [], _, e, h => by cases h
  | a :: l, hr, e, h => by
    obtain ⟨h1, h2⟩ := List.pairwise_cons.1 hr
    rw [findD_cons]
    by_cases ha : a.1 = e.1
    · have hae : e = a := by
        rcases List.mem_cons.1 h with e2 | e2
        · exact e2
        · have := h1 e e2
          rw [ha, ltB_irrefl] at this; cases this
      rw [eqB_iff.2 ha, hae]; rfl
    · rw [eqB_ne ha]
      exact find_mem h2 ((List.mem_cons.1 h).resolve_left fun e2 => ha (by rw [e2]))
theorem find_some {l : List Ent} {nm : ByteArray} (h : (findD l nm).2 = true) : (nm, (findD l nm).1, ()) ∈ l := by
  obtain ⟨e, h1, h2, h3⟩ := findD_mem h
  rw [h3, ← h2]; exact h1
theorem find_ext {l m : List Ent} (hl : Rises l) (hm : Rises m) (h : ∀ s, findD l s = findD m s) : l = m := rise_eq hl hm fun e => ⟨fun he => by
    have h1 := find_mem hl he
    rw [h] at h1
    have h2 := find_some (l := m) (nm := e.1) (by rw [h1])
    rw [h1] at h2; exact h2, fun he => by
    have h1 := find_mem hm he
    rw [← h] at h1
    have h2 := find_some (l := l) (nm := e.1) (by rw [h1])
    rw [h1] at h2; exact h2⟩
theorem find_ins {e : Ent} {s : ByteArray} : ∀ {l : List Ent}, (findD l e.1).2 = false → findD (insD e l) s = if s = e.1 then (e.2.1, true) else findD l s
  | [], _ => by
    rw [insD, findD_cons]
    by_cases h : s = e.1
    · rw [if_pos h, h, eqB_refl]; rfl
    · rw [if_neg h, eqB_ne (fun e => h e.symm)]; rfl
  | x :: r, hf => by
    rw [insD]
    by_cases hx : eqB x.1 e.1 = true
    · rw [findD_cons, if_pos hx] at hf; cases hf
    rw [findD_cons, if_neg hx] at hf
    split
    · rw [findD_cons]
      by_cases h : s = e.1
      · rw [if_pos h, h, eqB_refl]; rfl
      · rw [if_neg h, eqB_ne (fun e => h e.symm)]; rfl
    · rw [findD_cons, find_ins hf, findD_cons]
      by_cases h : s = e.1
      · subst h
        rw [if_pos rfl, if_neg hx, if_pos rfl]
      · rw [if_neg h, if_neg h]
theorem find_filter {nm s : ByteArray} : ∀ {l : List Ent}, findD (l.filter fun e => !eqB e.1 nm) s = if s = nm then (0, false) else findD l s
  | [] => by split <;> rfl
  | x :: r => by
    rw [List.filter_cons]
    by_cases hx : eqB x.1 nm = true
    · rw [hx]
      simp only [Bool.not_true, Bool.false_eq_true, if_false]
      rw [find_filter, findD_cons]
      by_cases h : s = nm
      · rw [if_pos h, if_pos h]
      · rw [if_neg h, if_neg h, eqB_iff.1 hx, eqB_ne (fun e => h e.symm)]; rfl
    · rw [show eqB x.1 nm = false by simpa using hx]
      simp only [Bool.not_false, if_true]
      rw [findD_cons, find_filter, findD_cons]
      by_cases h : s = nm
      · subst h
        rw [if_pos rfl, if_pos rfl, if_neg hx]
      · rw [if_neg h, if_neg h]
theorem find_lessD {nm s : ByteArray} {l : List Ent} (h : (findD l nm).2 = true) : findD (lessD l nm).1 s = if s = nm then (0, false) else findD l s := by
  rw [lessD, if_pos h]; exact find_filter
theorem names_rise (t : List Node) (i : Int) : Rises (namesT t i) := by
  unfold namesT
  split
  · exact List.Pairwise.nil
  · rcases takeD_cases (bodyT t i) with ⟨l, hl⟩ | hl <;> rw [hl]
    · exact (takeD_iff.1 hl).1.2.1
    · exact List.Pairwise.nil
/-- What is looked up. -/
def lk (t : List Node) (i : Int) (s : ByteArray) : Int × Bool := findD (namesT t i) s
theorem lk_range {t : List Node} {i : Int} {s : ByteArray} (h : (lk t i s).2 = true) : 1 ≤ (lk t i s).1 ∧ (lk t i s).1 ≤ 9 := findD_range (fun e he => namesT_ok he) s h
theorem lk_some {t : List Node} {i : Int} {s : ByteArray} {x : Int} (h : lk t i s = (x, true)) : (s, x, ()) ∈ namesT t i := by
  have h2 := find_some (l := namesT t i) (nm := s) (by show (lk t i s).2 = true; rw [h])
  rw [show findD (namesT t i) s = (x, true) from h] at h2
  exact h2
theorem lk_in {t : List Node} {i : Int} {s : ByteArray} (h : (lk t i s).2 = true) : 1 ≤ i ∧ i ≤ t.length ∧ kindT t i = 2 := by
  have h2 := find_some (l := namesT t i) (nm := s) h
  have h3 := names_out h2
  exact ⟨h3.1, h3.2.1, h3.2.2.1⟩
theorem lk_none {t : List Node} {i : Int} {s : ByteArray} (h : (lk t i s).2 = false) : lk t i s = (0, false) := (findD_none h).1
/-- Trees that may be, alike in what is looked up, and in all else, are the same. -/
theorem tree_ext {t u : List Node} (ht : GoodT t) (hu : GoodT u) (hk : ∀ j, 1 ≤ j → j ≤ 9 → kindT u j = kindT t j ∧ (nodeT u j).2.1 = (nodeT t j).2.1) (hb : ∀ j, 1 ≤ j → j ≤ 9 → kindT t j ≠ 2 → bodyT u j = bodyT t j)
    (hn : ∀ j s, 1 ≤ j → j ≤ 9 → lk u j s = lk t j s) : u = t := by
  have h1 := ht.len
  have h2 := hu.len
  refine List.ext_getElem (by omega) fun k k1 k2 => ?_
  have e1 : nodeT u ((k : Int) + 1) = u[k] := by
    unfold nodeT
    rw [show ((k : Int) + 1 - 1).toNat = k by omega, List.getD_eq_getElem?_getD, List.getElem?_eq_getElem k1]; rfl
  have e2 : nodeT t ((k : Int) + 1) = t[k] := by
    unfold nodeT
    rw [show ((k : Int) + 1 - 1).toNat = k by omega, List.getD_eq_getElem?_getD, List.getElem?_eq_getElem k2]; rfl
  rw [← e1, ← e2]
  obtain ⟨q1, q2⟩ := hk ((k : Int) + 1) (by omega) (by omega)
  have q3 : bodyT u ((k : Int) + 1) = bodyT t ((k : Int) + 1) := by
    by_cases h : kindT t ((k : Int) + 1) = 2
    · have a1 := (ht.take (i := (k : Int) + 1) (by omega) (by omega) h).2.2
      have a2 := (hu.take (i := (k : Int) + 1) (by omega) (by omega) (by rw [q1]; exact h)).2.2
      have a3 := find_ext (names_rise u ((k : Int) + 1)) (names_rise t ((k : Int) + 1)) fun s => hn _ s (by omega) (by omega)
      rw [a3, a1] at a2
      exact bl_inj a2.symm
    · exact hb _ (by omega) (by omega) h
  unfold kindT at q1
  unfold bodyT at q3
  generalize nodeT u ((k : Int) + 1) = a at q1 q2 q3
  generalize nodeT t ((k : Int) + 1) = b at q1 q2 q3
  obtain ⟨a1, a2, a3, _⟩ := a
  obtain ⟨b1, b2, b3, _⟩ := b
  simp only at q1 q2 q3
  rw [q1, q2, q3]
/-! ### Walks -/
theorem walk_lk (t : List Node) (i : Int) (s : ByteArray) (r : List ByteArray) : walkT t i (s :: r) = if kindT t i ≠ 2 then (0, 5) else if (lk t i s).2 = false ∨ (t.length : Int) < (lk t i s).1 then (0, 2) else walkT t (lk t i s).1 r := rfl
theorem walk_step {t : List Node} {i y : Int} {s : ByteArray} {r : List ByteArray} (h : walkT t i (s :: r) = (y, 0)) : kindT t i = 2 ∧ (lk t i s).2 = true ∧ (lk t i s).1 ≤ (t.length : Int) ∧ walkT t (lk t i s).1 r = (y, 0) := by
  rw [walk_lk] at h
  by_cases h1 : kindT t i ≠ 2
  · rw [if_pos h1] at h; cases h
  rw [if_neg h1] at h
  by_cases h2 : (lk t i s).2 = false ∨ (t.length : Int) < (lk t i s).1
  · rw [if_pos h2] at h; cases h
  rw [if_neg h2] at h
  refine ⟨by simpa using h1, ?_, ?_, h⟩
  · cases e : (lk t i s).2 with
    | true => rfl
    | false => exact absurd (.inl e) h2
  · exact Int.not_lt.1 fun e => h2 (.inr e)
theorem walk_cons {t : List Node} {i : Int} {s : ByteArray} {r : List ByteArray} (h1 : kindT t i = 2) (h2 : (lk t i s).2 = true) (h3 : (lk t i s).1 ≤ (t.length : Int)) : walkT t i (s :: r) = walkT t (lk t i s).1 r := by
  rw [walk_lk, if_neg (by rw [h1]; simp), if_neg]
  rintro (h | h)
  · rw [h2] at h; cases h
  · omega
/-- Where more is looked up, what was found is found. -/
theorem walk_more {t u : List Node} (hl : u.length = t.length) (hk : ∀ j, 1 ≤ j → kindT t j = 2 → kindT u j = 2) (hm : ∀ j s, (lk t j s).2 = true → lk u j s = lk t j s) : ∀ {l : List ByteArray} {i y : Int}, 1 ≤ i → walkT t i l = (y, 0) → walkT u i l = (y, 0)
  | [], _, _, _, h => h
  | s :: r, i, y, h1, h => by
    obtain ⟨a1, a2, a3, a4⟩ := walk_step h
    have e := hm i s a2
    rw [walk_cons (hk i h1 a1) (by rw [e]; exact a2) (by rw [e, hl]; exact a3), e]
    exact walk_more hl hk hm (lk_range a2).1 a4
theorem walk_within {t : List Node} {y : Int} (hy : kindT t y = 2) : ∀ {l : List ByteArray} {i : Int}, walkT t i l = (y, 0) → Within t y i
  | [], i, h => by injection h with h _; rw [h]; exact .here
  | s :: r, i, h => by
    obtain ⟨a1, a2, a3, a4⟩ := walk_step h
    have hx : kindT t (lk t i s).1 = 2 := by
      cases r with
      | nil => injection a4 with a4 _; rw [a4]; exact hy
      | cons s' r' => exact (walk_step a4).1
    have hm := find_some (l := namesT t i) (nm := s) a2
    exact .down (e := (s, (lk t i s).1, ())) hm a3 hx (walk_within hy a4)
/-- A folder's way does not lead through what it does not lie in. -/
theorem walk_past {t u : List Node} {d n y : Int} {nm : ByteArray} (hl : u.length = t.length) (hk : ∀ j, 1 ≤ j → kindT t j = 2 → kindT u j = 2) (hm : ∀ j s, (lk t j s).2 = true → ¬ (j = d ∧ s = nm) → lk u j s = lk t j s)
    (hd : lk t d nm = (n, true)) (hy : kindT t y = 2) (hw : ¬ Within t y n) : ∀ {l : List ByteArray} {i : Int}, 1 ≤ i → walkT t i l = (y, 0) → walkT u i l = (y, 0)
  | [], _, _, h => h
  | s :: r, i, h1, h => by
    obtain ⟨a1, a2, a3, a4⟩ := walk_step h
    have hne : ¬ (i = d ∧ s = nm) := fun ⟨e1, e2⟩ => by
      rw [e1, e2, hd] at a4
      exact hw (walk_within hy a4)
    have e := hm i s a2 hne
    rw [walk_cons (hk i h1 a1) (by rw [e]; exact a2) (by rw [e, hl]; exact a3), e]
    exact walk_past hl hk hm hd hy hw (lk_range a2).1 a4
/-! ### No folder lies in itself -/
theorem deep_in {t : List Node} {d x : Int} (h : Within t d x) : ∀ {k : Nat}, Deep t k x → Deep t k d := by
  induction h with
  | here => exact fun h => h
  | down h1 h2 h3 _ ih =>
    intro k hk
    cases k with
    | zero => exact hk.elim
    | succ k => exact (ih (hk _ h1 h2 h3)).more
theorem no_cycle {t : List Node} (h : allDeep t) {d x : Int} {e : Ent} (he : e ∈ namesT t d) (hl : e.2.1 ≤ (t.length : Int)) (hk : kindT t e.2.1 = 2) : ¬ Within t d e.2.1 := fun hw => by
  obtain ⟨k, hd⟩ := h e.2.1
  induction k with
  | zero => exact hd
  | succ k ih => exact ih (deep_in hw hd e he hl hk)
theorem no_self {t : List Node} (hg : GoodT t) {d x : Int} {nm : ByteArray} (h : lk t d nm = (x, true)) : ¬ Within t d x := fun hw => by
  have hr := lk_range (t := t) (i := d) (s := nm) (by rw [h])
  have hi := lk_in (t := t) (i := d) (s := nm) (by rw [h])
  rw [h] at hr
  by_cases hk : kindT t x = 2
  · exact no_cycle hg.deep (x := x) (lk_some h) (by rw [hg.len]; exact hr.2) hk hw
  · have := no_names (names_file hk) hw
    rw [this] at hi
    exact hk hi.2.2
end Go.Proofs.YtodkmhamaahjmaaGreatDoor

/- What is moved, and back again: plain terms. -/
set_option maxRecDepth 10000
set_option maxHeartbeats 1000000
set_option linter.unusedSimpArgs false
set_option linter.unusedVariables false
namespace Go.Proofs.YtodkmhamaahjmaaGreatDoor
open Go.Tm Go.IntWalk

/-- Alike, but for names. -/
structure Like (t u : List Node) : Prop where mk ::
  len : u.length = 9
  kind : ∀ j, 1 ≤ j → kindT u j = kindT t j
  mode : ∀ j, 1 ≤ j → (nodeT u j).2.1 = (nodeT t j).2.1
  file : ∀ j, 1 ≤ j → kindT t j ≠ 2 → nodeT u j = nodeT t j
theorem Like.trans {t u v : List Node} (h : Like t u) (k : Like u v) : Like t v :=
  ⟨k.len, fun j a => (k.kind j a).trans (h.kind j a), fun j a => (k.mode j a).trans (h.mode j a), fun j a b => (k.file j a (by rw [h.kind j a]; exact b)).trans (h.file j a b)⟩
theorem names_dirOK (t : List Node) (i : Int) : dirOK (namesT t i) := by
  unfold namesT
  split
  · exact ⟨by simp, List.Pairwise.nil, by decide⟩
  · rcases takeD_cases (bodyT t i) with ⟨l, hl⟩ | hl <;> rw [hl]
    · exact (takeD_iff.1 hl).1
    · exact ⟨by simp, List.Pairwise.nil, by decide⟩
theorem dirL_less (l : List Ent) (nm : ByteArray) : (dirL (lessD l nm).1).length ≤ (dirL l).length := by
  unfold lessD
  split
  · have key : ∀ (f : Ent → Bool) (l : List Ent), (dirL (l.filter f)).length ≤ (dirL l).length := by
      intro f l
      induction l with
      | nil => simp
      | cons x l ih =>
        rw [List.filter_cons]
        split
        · rw [dirL_cons, dirL_cons, List.length_append, List.length_append]; omega
        · rw [dirL_cons, List.length_append]; omega
    exact key _ _
  · exact Nat.le_refl _
theorem less_dirOK {l : List Ent} (nm : ByteArray) (h : dirOK l) : dirOK (lessD l nm).1 := by
  refine ⟨fun e he => h.1 e (lessD_mem' he), ?_, Nat.le_trans (dirL_less _ _) h.2.2⟩
  unfold lessD
  split
  · exact List.Pairwise.filter _ h.2.1
  · exact h.2.1
/-- A folder has other names. -/
theorem set_names {t : List Node} (h9 : t.length = 9) {d : Int} (hd : 1 ≤ d) (hl : d ≤ 9) (hk : kindT t d = 2) {l : List Ent} (hok : dirOK l) :
    Like t (setT t d (withBody (nodeT t d) (ofL (dirL l)))) ∧ ∀ j, 1 ≤ j → namesT (setT t d (withBody (nodeT t d) (ofL (dirL l)))) j = if j = d then l else namesT t j := by
  have hn : ∀ j, 1 ≤ j → nodeT (setT t d (withBody (nodeT t d) (ofL (dirL l)))) j = if j = d then withBody (nodeT t d) (ofL (dirL l)) else nodeT t j := fun j hj => nodeT_set hd (by omega) hj
  have hl9 : (setT t d (withBody (nodeT t d) (ofL (dirL l)))).length = 9 := by rw [setT_len]; exact h9
  have hkj : ∀ j, 1 ≤ j → kindT (setT t d (withBody (nodeT t d) (ofL (dirL l)))) j = kindT t j := fun j hj => by
    unfold kindT
    rw [hn j hj]
    split
    · rename_i e; rw [e]; rfl
    · rfl
  refine ⟨⟨hl9, hkj, fun j hj => ?_, fun j hj hne => ?_⟩, fun j hj => ?_⟩
  · rw [hn j hj]
    split
    · rename_i e; rw [e]; rfl
    · rfl
  · rw [hn j hj, if_neg]
    rintro rfl; exact hne hk
  · by_cases e : j = d
    · subst e
      rw [if_pos rfl, names_in hj (by rw [hl9]; exact hl) (by rw [hkj j hj]; exact hk)]
      unfold bodyT
      rw [hn j hj, if_pos rfl]
      show (takeD (ofL (dirL l))).1 = l
      rw [takeD_put hok]
    · rw [if_neg e]; exact names_node (by rw [hl9, h9]) (by rw [hn j hj, if_neg e])
theorem put_like {t : List Node} (h9 : t.length = 9) {d x : Int} {nm : ByteArray} (hd : 1 ≤ d) (hl : d ≤ 9) (hk : kindT t d = 2) (hf : (lk t d nm).2 = false) (h : (putT t d (nm, x, ())).2 = true) :
    Like t (putT t d (nm, x, ())).1 ∧ (∀ j, 1 ≤ j → namesT (putT t d (nm, x, ())).1 j = if j = d then insD (nm, x, ()) (namesT t d) else namesT t j) ∧ ∀ j s, 1 ≤ j → lk (putT t d (nm, x, ())).1 j s = if j = d ∧ s = nm then (x, true) else lk t j s := by
  obtain ⟨p1, p2, p3⟩ := put_out (e := (nm, x, ())) hd (by omega) hk hf h
  obtain ⟨q1, q2⟩ := set_names h9 hd hl hk p1
  rw [← p2] at q1 q2
  refine ⟨q1, q2, fun j s hj => ?_⟩
  unfold lk
  rw [q2 j hj]
  by_cases e : j = d
  · subst e
    rw [if_pos rfl, find_ins (e := (nm, x, ())) hf]
    by_cases e2 : s = nm
    · rw [if_pos e2, if_pos ⟨rfl, e2⟩]
    · rw [if_neg e2, if_neg (fun h => e2 h.2)]
  · rw [if_neg e, if_neg (fun h => e h.1)]
theorem cut_like {t : List Node} (h9 : t.length = 9) {d : Int} {nm : ByteArray} (hd : 1 ≤ d) (hl : d ≤ 9) (hk : kindT t d = 2) (hf : (lk t d nm).2 = true) :
    Like t (dropT t d nm) ∧ (∀ j, 1 ≤ j → namesT (dropT t d nm) j = if j = d then (lessD (namesT t d) nm).1 else namesT t j) ∧ ∀ j s, 1 ≤ j → lk (dropT t d nm) j s = if j = d ∧ s = nm then (0, false) else lk t j s := by
  have hok := less_dirOK nm (names_dirOK t d)
  have he : dropT t d nm = setT t d (withBody (nodeT t d) (ofL (dirL (lessD (namesT t d) nm).1))) := by
    unfold dropT
    rw [putD_ok hok]
  obtain ⟨q1, q2⟩ := set_names h9 hd hl hk hok
  rw [← he] at q1 q2
  refine ⟨q1, q2, fun j s hj => ?_⟩
  unfold lk
  rw [q2 j hj]
  by_cases e : j = d
  · subst e
    rw [if_pos rfl, find_lessD hf]
    by_cases e2 : s = nm
    · rw [if_pos e2, if_pos ⟨rfl, e2⟩]
    · rw [if_neg e2, if_neg (fun h => e2 h.2)]
  · rw [if_neg e, if_neg (fun h => e h.1)]
theorem ins_rise {e : Ent} : ∀ {l : List Ent}, Rises l → (findD l e.1).2 = false → Rises (insD e l)
  | [], _, _ => by rw [insD]; exact List.pairwise_singleton _ _
  | x :: r, h, hf => by
    obtain ⟨h1, h2⟩ := List.pairwise_cons.1 h
    have hne : ¬ eqB x.1 e.1 = true := fun hx => by rw [findD_cons, if_pos hx] at hf; cases hf
    rw [findD_cons, if_neg hne] at hf
    rw [insD]
    split
    · rename_i hlt
      refine List.pairwise_cons.2 ⟨fun y hy => ?_, h⟩
      rcases List.mem_cons.1 hy with rfl | hy
      · exact hlt
      · exact ltB_trans hlt (h1 y hy)
    · rename_i hge
      refine List.pairwise_cons.2 ⟨fun y hy => ?_, ins_rise h2 hf⟩
      rcases mem_ins.1 hy with rfl | hy
      · rcases ltB_tri (show ltB y.1 x.1 = false by simpa using hge) with h | h
        · exact absurd (eqB_iff.2 h.symm) hne
        · exact h
      · exact h1 y hy
/-- What goes into a folder. -/
theorem put_yes {t : List Node} {d x : Int} {nm : ByteArray} (hf : (lk t d nm).2 = false) (h : dirOK (insD (nm, x, ()) (namesT t d))) : (putT t d (nm, x, ())).2 = true := by
  have hw : (withD (namesT t d) (nm, x, ())).1 = insD (nm, x, ()) (namesT t d) := by
    unfold withD
    rw [show (findD (namesT t d) nm).2 = false from hf]; rfl
  unfold putT
  rw [hw, putD_ok h, if_neg (by simp)]
theorem place_eq {t : List Node} {a : List ByteArray} {s : ByteArray} {d : Int} (h : walk0 t a = (d, 0)) (hk : kindT t d = 2) : placeT t (a ++ [s]) = (d, s, 0) := by
  unfold placeT
  rw [List.dropLast_concat, h, if_neg (by simp), if_neg (by rw [hk]; simp)]
  simp
theorem moveT_eq {t : List Node} {f p : ByteArray} {own : Bool} {U W n : Int} {nu nw : ByteArray} (h1 : (partsS f own).2 = true) (h2 : (partsS p own).2 = true) (h3 : findT t f own = (n, 0)) (h4 : n ≠ 1) (h5 : (partsS p own).1.length ≠ 0)
    (h6 : placeT t (partsS p own).1 = (W, nw, 0)) (h7 : placeT t (partsS f own).1 = (U, nu, 0)) (h8 : ¬ (U = W ∧ nu = nw)) (h9 : (lk t W nw).2 = false) (h10 : ¬ (kindT t n = 2 ∧ Within t W n)) (h11 : (putT (dropT t U nu) W (nw, n, ())).2 = true) :
    moveT t f p own = ((putT (dropT t U nu) W (nw, n, ())).1, 0) := by
  unfold moveT
  rw [h3, h6, h7, if_neg (by rw [h1, h2]; simp), if_neg (by simp), if_neg h4, if_neg h5, if_neg (by simp), if_neg h8]
  simp only
  rw [if_neg (by rw [show (findD (namesT t W) nw).2 = false from h9]; simp), if_neg (fun h => h10 ⟨h.1, of_withinB h.2⟩), if_neg (by rw [h11]; simp)]
/-- What a move that is done says. -/
theorem moveT_out {t : List Node} {f p : ByteArray} {own : Bool} (h : (moveT t f p own).2 = 0) :
    (partsS f own).2 = true ∧ (partsS p own).2 = true ∧ (findT t f own).2 = 0 ∧ (findT t f own).1 ≠ 1 ∧ (partsS p own).1.length ≠ 0 ∧ (placeT t (partsS p own).1).2.2 = 0 ∧
    (((placeT t (partsS f own).1).1 = (placeT t (partsS p own).1).1 ∧ (placeT t (partsS f own).1).2.1 = (placeT t (partsS p own).1).2.1 ∧ (moveT t f p own).1 = t) ∨
     (¬ ((placeT t (partsS f own).1).1 = (placeT t (partsS p own).1).1 ∧ (placeT t (partsS f own).1).2.1 = (placeT t (partsS p own).1).2.1) ∧ (lk t (placeT t (partsS p own).1).1 (placeT t (partsS p own).1).2.1).2 = false ∧ ¬ (kindT t (findT t f own).1 = 2 ∧ Within t (placeT t (partsS p own).1).1 (findT t f own).1) ∧
      (putT (dropT t (placeT t (partsS f own).1).1 (placeT t (partsS f own).1).2.1) (placeT t (partsS p own).1).1 ((placeT t (partsS p own).1).2.1, (findT t f own).1, ())).2 = true ∧
      (moveT t f p own).1 = (putT (dropT t (placeT t (partsS f own).1).1 (placeT t (partsS f own).1).2.1) (placeT t (partsS p own).1).1 ((placeT t (partsS p own).1).2.1, (findT t f own).1, ())).1)) := by
  unfold moveT at h ⊢
  by_cases h1 : (partsS f own).2 = false ∨ (partsS p own).2 = false
  · rw [if_pos h1] at h; cases h
  rw [if_neg h1] at h ⊢
  by_cases h2 : (findT t f own).2 ≠ 0
  · rw [if_pos h2] at h; exact absurd h h2
  rw [if_neg h2] at h ⊢
  by_cases h3 : (findT t f own).1 = 1
  · rw [if_pos h3] at h; cases h
  rw [if_neg h3] at h ⊢
  by_cases h4 : (partsS p own).1.length = 0
  · rw [if_pos h4] at h; cases h
  rw [if_neg h4] at h ⊢
  by_cases h5 : (placeT t (partsS p own).1).2.2 ≠ 0
  · rw [if_pos h5] at h; exact absurd h h5
  rw [if_neg h5] at h ⊢
  have a1 : (partsS f own).2 = true := by
    cases e : (partsS f own).2 with
    | true => rfl
    | false => exact absurd (.inl e) h1
  have a2 : (partsS p own).2 = true := by
    cases e : (partsS p own).2 with
    | true => rfl
    | false => exact absurd (.inr e) h1
  refine ⟨a1, a2, by simpa using h2, h3, h4, by simpa using h5, ?_⟩
  by_cases h6 : (placeT t (partsS f own).1).1 = (placeT t (partsS p own).1).1 ∧ (placeT t (partsS f own).1).2.1 = (placeT t (partsS p own).1).2.1
  · rw [if_pos h6]; exact .inl ⟨h6.1, h6.2, rfl⟩
  rw [if_neg h6] at h ⊢
  by_cases h7 : (findD (namesT t (placeT t (partsS p own).1).1) (placeT t (partsS p own).1).2.1).2 = true
  · rw [if_pos h7] at h; cases h
  rw [if_neg h7] at h ⊢
  by_cases h8 : kindT t (findT t f own).1 = 2 ∧ withinB t (placeT t (partsS p own).1).1 (findT t f own).1 = true
  · rw [if_pos h8] at h; cases h
  rw [if_neg h8] at h ⊢
  by_cases h9 : (putT (dropT t (placeT t (partsS f own).1).1 (placeT t (partsS f own).1).2.1) (placeT t (partsS p own).1).1 ((placeT t (partsS p own).1).2.1, (findT t f own).1, ())).2 = false
  · rw [if_pos h9] at h; cases h
  rw [if_neg h9]
  refine .inr ⟨h6, ?_, fun hh => h8 ⟨hh.1, withinB_yes hh.2⟩, by simpa using h9, rfl⟩
  show (findD _ _).2 = false
  simpa using h7
/-! ### The place of a way -/
theorem find_place {t : List Node} (hg : GoodT t) {f : ByteArray} {own : Bool} (h : (findT t f own).2 = 0) (h1 : (findT t f own).1 ≠ 1) :
    ∃ a s U, (partsS f own).1 = a ++ [s] ∧ (partsS f own).2 = true ∧ placeT t (partsS f own).1 = (U, s, 0) ∧ walkT t 1 a = (U, 0) ∧ kindT t U = 2 ∧ 1 ≤ U ∧ U ≤ 9 ∧ lk t U s = ((findT t f own).1, true) := by
  have hne := find_root h h1
  obtain ⟨q0, q00⟩ := find_parts h
  have hlen := hg.len
  have hw : walk0 t (partsS f own).1 = walkT t 1 (partsS f own).1 := if_neg (by omega)
  obtain ⟨a, s, e⟩ : ∃ a s, (partsS f own).1 = a ++ [s] := ⟨(partsS f own).1.dropLast, (partsS f own).1.getLast hne, (List.dropLast_concat_getLast hne).symm⟩
  obtain ⟨q1, q2, q3⟩ := walk_snoc (by rw [← q00]; exact h) hne
  rw [← q00] at q3
  obtain ⟨v1, v2, v3, v4, v5, v6⟩ := placeT_ok q1
  rw [e, List.dropLast_concat] at v5 v6
  have hw2 : walk0 t a = walkT t 1 a := if_neg (by omega)
  rw [hw2] at v5 v6
  have q2' : (placeT t (partsS f own).1).2.1 = s := by rw [q2, e]; simp
  refine ⟨a, s, (placeT t (partsS f own).1).1, e, q0, ?_, ?_, v3, v1, by omega, ?_⟩
  · rw [← q2', ← q1]
  · rw [e, v5, ← v6]
  · rw [q2'] at q3; exact q3
theorem place_out {t : List Node} (hg : GoodT t) {l : List ByteArray} (hl : l.length ≠ 0) (h : (placeT t l).2.2 = 0) :
    ∃ a s U, l = a ++ [s] ∧ placeT t l = (U, s, 0) ∧ walkT t 1 a = (U, 0) ∧ kindT t U = 2 ∧ 1 ≤ U ∧ U ≤ 9 := by
  have hne : l ≠ [] := fun e => hl (by rw [e]; rfl)
  have hlen := hg.len
  obtain ⟨a, s, e⟩ : ∃ a s, l = a ++ [s] := ⟨l.dropLast, l.getLast hne, (List.dropLast_concat_getLast hne).symm⟩
  obtain ⟨v1, v2, v3, v4, v5, v6⟩ := placeT_ok h
  have hw2 : walk0 t a = walkT t 1 a := if_neg (by omega)
  rw [e, List.dropLast_concat, hw2] at v5 v6
  have q2' : (placeT t l).2.1 = s := by rw [v4, e]; simp
  refine ⟨a, s, (placeT t l).1, e, ?_, ?_, v3, v1, by omega⟩
  · rw [← q2', ← h]
  · rw [e, v5, ← v6]
theorem walk_end {t : List Node} (hg : GoodT t) {a : List ByteArray} {s : ByteArray} {U : Int} (h : walkT t 1 a = (U, 0)) (hk : kindT t U = 2) : walk0 t (a ++ [s]) = if (lk t U s).2 = true then ((lk t U s).1, 0) else (0, 2) := by
  have hlen := hg.len
  have hw : walk0 t (a ++ [s]) = walkT t 1 (a ++ [s]) := if_neg (by omega)
  rw [hw, walkT_snoc, h, if_pos rfl]
  simp only
  rw [walk_lk, if_neg (by rw [hk]; simp)]
  by_cases hf : (lk t U s).2 = true
  · have := lk_range hf
    rw [if_pos hf, if_neg]
    · rfl
    · rintro (h | h)
      · rw [hf] at h; cases h
      · omega
  · rw [if_neg hf, if_pos (.inl (by simpa using hf))]
/-! ### One way alone leads to a folder -/
theorem cnt_ge1 {t : List Node} {y : Int} {i : Int} (h1 : 1 ≤ i) : ∀ {n : Nat}, i ≤ n → cntE (namesT t i) y ≤ cntT t y n
  | 0, h => by omega
  | n + 1, h => by
    rw [cntT_succ]
    by_cases e : i = ((n + 1 : Nat) : Int)
    · rw [e]; omega
    · have := cnt_ge1 (t := t) (y := y) h1 (n := n) (by omega)
      omega
theorem cnt_ge2 {t : List Node} {y : Int} {i j : Int} (h1 : 1 ≤ i) (hij : i < j) : ∀ {n : Nat}, j ≤ n → cntE (namesT t i) y + cntE (namesT t j) y ≤ cntT t y n
  | 0, h => by omega
  | n + 1, h => by
    rw [cntT_succ]
    by_cases e : j = ((n + 1 : Nat) : Int)
    · rw [e]
      have := cnt_ge1 (t := t) (y := y) h1 (n := n) (by omega)
      omega
    · have := cnt_ge2 (t := t) (y := y) h1 hij (n := n) (by omega)
      omega
theorem cntE_two {y : Int} : ∀ {l : List Ent} {a b : Ent}, a ∈ l → b ∈ l → a ≠ b → a.2.1 = y → b.2.1 = y → 2 ≤ cntE l y
  | [], _, _, h, _, _, _, _ => by cases h
  | x :: r, a, b, ha, hb, hne, ea, eb => by
    rw [cntE_cons]
    rcases List.mem_cons.1 ha with e1 | ha
    · rcases List.mem_cons.1 hb with e2 | hb
      · exact absurd (e1.trans e2.symm) hne
      · have := cntE_pos hb
        rw [eb] at this
        rw [← e1, if_pos ea]; omega
    · rcases List.mem_cons.1 hb with e2 | hb
      · have := cntE_pos ha
        rw [ea] at this
        rw [← e2, if_pos eb]; omega
      · have := cntE_two ha hb hne ea eb
        omega
theorem once_eq {t : List Node} {y : Int} (h : cntT t y 9 = 1) {i j : Int} {a b : ByteArray} (ha : lk t i a = (y, true)) (hb : lk t j b = (y, true)) (hi : i ≤ 9) (hj : j ≤ 9) : i = j ∧ a = b := by
  have m1 := lk_some ha
  have m2 := lk_some hb
  have r1 := (names_out m1).1
  have r2 := (names_out m2).1
  have p1 := cntE_pos m1
  have p2 := cntE_pos m2
  simp only at p1 p2
  have hij : i = j := by
    rcases Int.lt_trichotomy i j with h1 | h1 | h1
    · have := cnt_ge2 (t := t) (y := y) r1 h1 (n := 9) hj
      omega
    · exact h1
    · have := cnt_ge2 (t := t) (y := y) r2 h1 (n := 9) hi
      omega
  subst hij
  refine ⟨rfl, Classical.byContradiction fun hne => ?_⟩
  have a1 := cntE_two (y := y) m1 m2 (fun e => hne (by injection e)) rfl rfl
  have a2 := cnt_ge1 (t := t) (y := y) r1 (n := 9) hi
  omega
theorem lk_le {t : List Node} (hg : GoodT t) {i : Int} {s : ByteArray} (h : (lk t i s).2 = true) : 1 ≤ i ∧ i ≤ 9 := by
  have h1 := lk_in h
  have h2 := hg.len
  omega
theorem lk_pair {t : List Node} {i y : Int} {s : ByteArray} (h : (lk t i s).2 = true) (e : (lk t i s).1 = y) : lk t i s = (y, true) := by
  rw [← h, ← e]
theorem root_free {t : List Node} (hg : GoodT t) {i : Int} {s : ByteArray} (h : lk t i s = (1, true)) : False := by
  have h1 := cntE_pos (lk_some h)
  have h2 := lk_le hg (i := i) (s := s) (by rw [h])
  have h3 := cnt_ge1 (t := t) (y := 1) h2.1 (n := 9) (by omega)
  have h4 := hg.rootless
  simp only at h1
  omega
theorem snoc_step {t : List Node} {a : List ByteArray} {s : ByteArray} {y : Int} (h : walkT t 1 (a ++ [s]) = (y, 0)) : ∃ z, walkT t 1 a = (z, 0) ∧ kindT t z = 2 ∧ lk t z s = (y, true) := by
  rw [walkT_snoc] at h
  by_cases e : (walkT t 1 a).2 = 0
  · rw [if_pos e] at h
    obtain ⟨h1, h2, h3, h4⟩ := walk_step h
    injection h4 with h4 _
    exact ⟨(walkT t 1 a).1, by rw [← e], h1, lk_pair h2 h4⟩
  · rw [if_neg e] at h
    rw [h] at e; exact absurd rfl e
theorem one_way {t : List Node} (hg : GoodT t) : ∀ (n : Nat) {a b : List ByteArray} {y : Int}, a.length = n → walkT t 1 a = (y, 0) → walkT t 1 b = (y, 0) → kindT t y = 2 → a = b
  | 0, a, b, y, hn, ha, hb, hy => by
    obtain rfl : a = [] := List.eq_nil_of_length_eq_zero hn
    injection ha with ha _
    subst ha
    rcases List.eq_nil_or_concat b with rfl | ⟨b', s, rfl⟩
    · rfl
    rw [List.concat_eq_append] at hb
    obtain ⟨z, _, _, h3⟩ := snoc_step hb
    exact (root_free hg h3).elim
  | n + 1, a, b, y, hn, ha, hb, hy => by
    rcases List.eq_nil_or_concat a with rfl | ⟨a', s, rfl⟩
    · cases hn
    rw [List.concat_eq_append] at ha hn ⊢
    obtain ⟨z, w1, k1, l1⟩ := snoc_step ha
    rcases List.eq_nil_or_concat b with rfl | ⟨b', s', rfl⟩
    · injection hb with hb _
      subst hb
      exact (root_free hg l1).elim
    rw [List.concat_eq_append] at hb ⊢
    obtain ⟨z', w2, k2, l2⟩ := snoc_step hb
    have hy1 := lk_range (t := t) (i := z) (s := s) (by rw [l1])
    rw [l1] at hy1
    have hne : y ≠ 1 := fun e => by rw [e] at l1; exact root_free hg l1
    obtain ⟨e1, e2⟩ := once_eq (hg.once y (by omega) hy1.2 hy) l1 l2 (lk_le hg (i := z) (s := s) (by rw [l1])).2 (lk_le hg (i := z') (s := s') (by rw [l2])).2
    have := one_way hg n (a := a') (b := b') (y := z) (by simpa using hn) w1 (by rw [e1]; exact w2) k1
    rw [this, e2]
end Go.Proofs.YtodkmhamaahjmaaGreatDoor

/- What is moved is found, and comes back: plain terms. -/
set_option maxRecDepth 10000
set_option maxHeartbeats 1000000
set_option linter.unusedSimpArgs false
set_option linter.unusedVariables false
namespace Go.Proofs.YtodkmhamaahjmaaGreatDoor
open Go.Tm Go.IntWalk

theorem find_of {t : List Node} {p : ByteArray} {own : Bool} (h : (partsS p own).2 = true) : findT t p own = walk0 t (partsS p own).1 := by
  unfold findT
  rw [if_neg (by rw [h]; simp)]
theorem snoc_inj {a b : List ByteArray} {s r : ByteArray} (h : a = b) (k : s = r) : a ++ [s] = b ++ [r] := by rw [h, k]
theorem moves_law {t : List Node} (hg : GoodT t) {f p : ByteArray} {own : Bool} (h : (moveT t f p own).2 = 0) (hpq : (partsS f own).1 ≠ (partsS p own).1) :
    findT (moveT t f p own).1 p own = ((findT t f own).1, 0) ∧ findT (moveT t f p own).1 f own = (0, 2) ∧ moveT (moveT t f p own).1 p f own = (t, 0) ∧ nodeT (moveT t f p own).1 (findT t f own).1 = nodeT t (findT t f own).1 ∧ 1 ≤ (findT t f own).1 ∧ (findT t f own).1 ≤ 9 := by
  obtain ⟨m1, m2, m3, m4, m5, m6, m7⟩ := moveT_out h
  have hgx := good_moveT hg f p own
  obtain ⟨k0, k1, k2⟩ := good_find hg m3
  obtain ⟨a, nu, U, ea, _, pu, wu, ku, u1, u9, lu⟩ := find_place hg m3 m4
  obtain ⟨b, nw, W, eb, pw, ww, kw, w1, w9⟩ := place_out hg m5 m6
  have hlen := hg.len
  rw [pu, pw] at m7
  simp only at m7
  rcases m7 with ⟨e1, e2, _⟩ | ⟨hne, hfree, hin, hput, hx⟩
  · exfalso
    apply hpq
    rw [ea, eb]
    refine snoc_inj (one_way hg _ rfl wu ?_ ku) e2
    rw [ww, e1]
  obtain ⟨n, hn⟩ : ∃ n, (findT t f own).1 = n := ⟨_, rfl⟩
  rw [hn] at m4 k0 k1 k2 lu hin hput hx ⊢
  have m3' : findT t f own = (n, 0) := by rw [← hn, ← m3]
  rw [hx] at hgx ⊢
  obtain ⟨c1, _, c3⟩ := cut_like (nm := nu) hlen u1 u9 ku (by rw [lu])
  obtain ⟨t1, ht1⟩ : ∃ t1, dropT t U nu = t1 := ⟨_, rfl⟩
  rw [ht1] at c1 c3 hput hgx ⊢
  have hfree1 : (lk t1 W nw).2 = false := by
    rw [c3 W nw w1]
    split
    · rfl
    · exact hfree
  obtain ⟨d1, _, d3⟩ := put_like (x := n) c1.len w1 w9 (by rw [c1.kind W w1]; exact kw) hfree1 hput
  obtain ⟨x, hxx⟩ : ∃ x, (putT t1 W (nw, n, ())).1 = x := ⟨_, rfl⟩
  rw [hxx] at d1 d3 hgx ⊢
  have L := c1.trans d1
  have hl : ∀ j s, 1 ≤ j → lk x j s = if j = W ∧ s = nw then (n, true) else if j = U ∧ s = nu then (0, false) else lk t j s := fun j s hj => by
    rw [d3 j s hj]
    split
    · rfl
    · exact c3 j s hj
  have hUW : ¬ (U = W ∧ nu = nw) := hne
  have hlU : lk x U nu = (0, false) := by rw [hl U nu u1, if_neg hUW, if_pos ⟨rfl, rfl⟩]
  have hlW : lk x W nw = (n, true) := by rw [hl W nw w1, if_pos ⟨rfl, rfl⟩]
  have hno : ¬ Within t U n := no_self hg lu
  have hWn : ¬ Within t W n := fun hw => by
    by_cases hk : kindT t n = 2
    · exact hin ⟨hk, hw⟩
    · have := no_names (names_file hk) hw
      rw [this] at kw
      exact hk kw
  have hkeep : ∀ j s, (lk t j s).2 = true → ¬ (j = U ∧ s = nu) → lk x j s = lk t j s := fun j s hj hjs => by
    have h1 := (lk_in hj).1
    rw [hl j s h1, if_neg, if_neg hjs]
    rintro ⟨rfl, rfl⟩
    rw [hfree] at hj; cases hj
  have hkx : ∀ j, 1 ≤ j → kindT t j = 2 → kindT x j = 2 := fun j hj hk => by rw [L.kind j hj]; exact hk
  have wU : walkT x 1 a = (U, 0) := walk_past (t := t) (by rw [L.len, hlen]) hkx hkeep lu ku hno (Int.le_refl _) wu
  have wW : walkT x 1 b = (W, 0) := walk_past (t := t) (by rw [L.len, hlen]) hkx hkeep lu kw hWn (Int.le_refl _) ww
  have kU : kindT x U = 2 := hkx U u1 ku
  have kW : kindT x W = 2 := hkx W w1 kw
  have fp : findT x p own = (n, 0) := by
    rw [find_of m2, eb, walk_end hgx wW kW, hlW]; rfl
  have ff : findT x f own = (0, 2) := by
    rw [find_of m1, ea, walk_end hgx wU kU, hlU]; rfl
  have hnU : n ≠ U := fun e => hno (by rw [e]; exact .here)
  have hnW : n ≠ W := fun e => hWn (by rw [e]; exact .here)
  have hxW : ∀ i, Within x U i → Within t U i ∨ Within t U n := fun i hw => by
    induction hw with
    | here => exact .inl .here
    | @down i e he hle hke _ ih =>
      rcases ih with ih | ih
      · have hi := (names_out he).1
        have he2 : lk x i e.1 = (e.2.1, true) := find_mem (names_rise x i) he
        rw [hl i e.1 hi] at he2
        split at he2
        · injection he2 with he2 _
          right; rw [he2]; exact ih
        · split at he2
          · injection he2 with _ he2; cases he2
          · have he3 := lk_some he2
            have hr := (okE_out (namesT_ok he)).2
            exact .inl (.down he3 (by show e.2.1 ≤ _; omega) (by rw [← L.kind _ hr.1]; exact hke) ih)
      · exact .inr ih
  have hback : ¬ (kindT x n = 2 ∧ Within x U n) := fun ⟨_, hw⟩ => (hxW n hw).elim hno hno
  -- back
  have wx0 : walk0 x a = (U, 0) := by rw [walk0, if_neg (by rw [L.len]; decide)]; exact wU
  have wx1 : walk0 x b = (W, 0) := by rw [walk0, if_neg (by rw [L.len]; decide)]; exact wW
  have pfx : placeT x (partsS f own).1 = (U, nu, 0) := by rw [ea]; exact place_eq wx0 kU
  have ppx : placeT x (partsS p own).1 = (W, nw, 0) := by rw [eb]; exact place_eq wx1 kW
  obtain ⟨g1, _, g3⟩ := cut_like (nm := nw) L.len w1 w9 kW (by rw [hlW])
  obtain ⟨x1, hx1⟩ : ∃ x1, dropT x W nw = x1 := ⟨_, rfl⟩
  rw [hx1] at g1 g3
  have hf1 : (lk x1 U nu).2 = false := by
    rw [g3 U nu u1]
    split
    · rfl
    · rw [hlU]
  have hins : insD (nu, n, ()) (namesT x1 U) = namesT t U := find_ext (ins_rise (e := (nu, n, ())) (names_rise _ _) hf1) (names_rise _ _) fun s => by
    rw [find_ins (e := (nu, n, ())) hf1]
    show _ = lk t U s
    by_cases e : s = nu
    · rw [if_pos e, e, lu]
    · rw [if_neg e]
      show lk x1 U s = _
      rw [g3 U s u1]
      split
      · rename_i e2
        have : lk t U s = (0, false) := by rw [e2.1, e2.2]; exact lk_none hfree
        rw [this]
      · rename_i e2
        rw [hl U s u1, if_neg e2, if_neg (fun h => e h.2)]
  have hput2 : (putT x1 U (nu, n, ())).2 = true := put_yes hf1 (by rw [hins]; exact names_dirOK t U)
  have hmv : moveT x p f own = ((putT x1 U (nu, n, ())).1, 0) := by
    rw [← hx1] at hput2 ⊢
    exact moveT_eq m2 m1 fp m4 (by rw [ea]; simp) pfx ppx (fun h => hUW ⟨h.1.symm, h.2.symm⟩) (by rw [hlU]) hback hput2
  have hgy := good_moveT hgx p f own
  rw [hmv] at hgy
  obtain ⟨i1, _, i3⟩ := put_like (x := n) g1.len u1 u9 (by rw [g1.kind U u1]; exact kU) hf1 hput2
  have M := (L.trans g1).trans i1
  refine ⟨fp, ff, ?_, ?_, k1, k2⟩
  · rw [hmv]
    refine congrArg (fun z => (z, (0 : Int))) (tree_ext hg hgy (fun j h1 h2 => ⟨M.kind j h1, M.mode j h1⟩) (fun j h1 h2 hk => ?_) fun j s h1 h2 => ?_)
    · unfold bodyT
      rw [M.file j h1 hk]
    · rw [i3 j s h1]
      split
      · rename_i e; rw [e.1, e.2, lu]
      · rename_i e
        rw [g3 j s h1]
        split
        · rename_i e2
          rw [e2.1, e2.2]; exact (lk_none hfree).symm
        · rename_i e2
          rw [hl j s h1, if_neg e2, if_neg e]
  · -- its node
    have q1 : nodeT t1 n = nodeT t n := by rw [← ht1, dropT]; exact (nodeT_set u1 (by omega) k1).trans (if_neg hnU)
    rw [← q1, ← hxx]
    unfold putT
    split
    · rfl
    · exact (nodeT_set w1 (by rw [c1.len]; omega) k1).trans (if_neg hnW)
end Go.Proofs.YtodkmhamaahjmaaGreatDoor

/- What is made, linked, dropped, in plain terms: what is looked up behind it. -/
set_option maxRecDepth 10000
set_option maxHeartbeats 1000000
set_option linter.unusedSimpArgs false
set_option linter.unusedVariables false
namespace Go.Proofs.YtodkmhamaahjmaaGreatDoor
open Go.Tm Go.IntWalk

theorem not_true {b : Bool} (h : ¬ b = true) : b = false := by simpa using h
theorem not_false {b : Bool} (h : ¬ b = false) : b = true := by simpa using h
/-- A node without names is another one without names. -/
theorem set_bare {t : List Node} (h9 : t.length = 9) {i : Int} {n : Node} (h1 : 1 ≤ i) (hl : i ≤ 9) (h0 : kindT t i ≠ 2) (hn : n.1 = 2 → n.2.2.1 = no) :
    (setT t i n).length = 9 ∧ (∀ j, 1 ≤ j → nodeT (setT t i n) j = if j = i then n else nodeT t j) ∧ ∀ j, 1 ≤ j → namesT (setT t i n) j = namesT t j := by
  have hs : ∀ j, 1 ≤ j → nodeT (setT t i n) j = if j = i then n else nodeT t j := fun j hj => nodeT_set h1 (by omega) hj
  refine ⟨by rw [setT_len]; exact h9, hs, fun j hj => ?_⟩
  by_cases e : j = i
  · subst e
    rw [names_file h0]
    by_cases hk : n.1 = 2
    · rw [names_in hj (by rw [setT_len, h9]; exact hl) (by unfold kindT; rw [hs j hj, if_pos rfl]; exact hk)]
      unfold bodyT
      rw [hs j hj, if_pos rfl, hn hk, takeD_no]
    · exact names_file (by unfold kindT; rw [hs j hj, if_pos rfl]; exact hk)
  · exact names_node (by rw [setT_len]) (by rw [hs j hj, if_neg e])
/-- A node that is made. -/
structure Made (t x : List Node) (d N : Int) (nm : ByteArray) (n : Node) : Prop where mk ::
  len : x.length = 9
  node : nodeT x N = n
  kind : ∀ j, 1 ≤ j → j ≠ N → kindT x j = kindT t j
  mode : ∀ j, 1 ≤ j → j ≠ N → (nodeT x j).2.1 = (nodeT t j).2.1
  file : ∀ j, 1 ≤ j → j ≠ N → kindT t j ≠ 2 → nodeT x j = nodeT t j
  look : ∀ j s, 1 ≤ j → lk x j s = if j = d ∧ s = nm then (N, true) else lk t j s
theorem makeT_out {t : List Node} (hg : GoodT t) {p : ByteArray} {kind mode ino : Int} {own : Bool} (h : (makeT t p kind mode ino own).2 = 0) :
    ∃ a nm d N, partsS p own = (a ++ [nm], true) ∧ walkT t 1 a = (d, 0) ∧ kindT t d = 2 ∧ 1 ≤ d ∧ d ≤ 9 ∧ (lk t d nm).2 = false ∧ N = (if ino = 0 then freeT t else ino) ∧ 1 ≤ N ∧ N ≤ 9 ∧ kindT t N = 0 ∧ d ≠ N ∧
      Made t (makeT t p kind mode ino own).1 d N nm (kind, mode, no, ()) := by
  unfold makeT at h ⊢
  obtain ⟨N, hN0⟩ : ∃ N, (if ino = 0 then freeT t else ino) = N := ⟨_, rfl⟩
  rw [hN0] at h ⊢
  by_cases h1 : (partsS p own).2 = false ∨ (kind ≠ 1 ∧ kind ≠ 2) ∨ mode < 0 ∨ 255 < mode ∨ ino < 0 ∨ 9 < ino
  · rw [if_pos h1] at h; cases h
  rw [if_neg h1] at h ⊢
  by_cases h2 : (partsS p own).1.length = 0
  · rw [if_pos h2] at h; cases h
  rw [if_neg h2] at h ⊢
  by_cases h3 : (placeT t (partsS p own).1).2.2 ≠ 0
  · rw [if_pos h3] at h; exact absurd h h3
  rw [if_neg h3] at h ⊢
  by_cases h4 : (findD (namesT t (placeT t (partsS p own).1).1) (placeT t (partsS p own).1).2.1).2 = true
  · rw [if_pos h4] at h; cases h
  rw [if_neg h4] at h ⊢
  by_cases h5 : 0 < ino ∧ ((t.length : Int) < ino ∨ kindT t ino ≠ 0)
  · rw [if_pos h5] at h; cases h
  rw [if_neg h5] at h ⊢
  by_cases h6 : N = 0
  · rw [if_pos h6] at h; cases h
  rw [if_neg h6] at h ⊢
  by_cases h7 : (putT t (placeT t (partsS p own).1).1 ((placeT t (partsS p own).1).2.1, N, ())).2 = false
  · rw [if_pos h7] at h; cases h
  rw [if_neg h7]
  have hlen := hg.len
  obtain ⟨a, nm, d, e, pe, we, kd, d1, d9⟩ := place_out hg h2 (by simpa using h3)
  rw [pe] at h4 h7 ⊢
  simp only at h4 h7 ⊢
  have hN : 1 ≤ N ∧ N ≤ 9 ∧ kindT t N = 0 := by
    split at hN0
    · rename_i e
      subst hN0
      have := free_kind h6
      rw [hlen] at this; exact this
    · rename_i e
      subst hN0
      refine ⟨by omega, by omega, ?_⟩
      exact Classical.byContradiction fun hk => h5 ⟨by omega, .inr hk⟩
  have hdN : d ≠ N := fun e => by rw [e] at kd; omega
  have hfr : (lk t d nm).2 = false := not_true h4
  obtain ⟨p1, p2, p3⟩ := put_like (x := N) hlen d1 d9 kd hfr (not_false h7)
  obtain ⟨t1, ht1⟩ : ∃ t1, (putT t d (nm, N, ())).1 = t1 := ⟨_, rfl⟩
  rw [ht1] at p1 p2 p3 ⊢
  obtain ⟨q1, q2, q3⟩ := set_bare (t := t1) (n := (kind, mode, no, ())) p1.len hN.1 hN.2.1 (by rw [p1.kind N hN.1]; omega) (fun _ => rfl)
  have hok : (partsS p own).2 = true := by
    cases e : (partsS p own).2 with
    | true => rfl
    | false => exact absurd (.inl e) h1
  refine ⟨a, nm, d, N, by rw [← e, ← hok], we, kd, d1, d9, hfr, rfl, hN.1, hN.2.1, hN.2.2, hdN, ⟨q1, ?_, fun j hj hne => ?_, fun j hj hne => ?_, fun j hj hne hk => ?_, fun j s hj => ?_⟩⟩
  · rw [q2 N hN.1, if_pos rfl]
  · unfold kindT; rw [q2 j hj, if_neg hne]; exact p1.kind j hj
  · rw [q2 j hj, if_neg hne]; exact p1.mode j hj
  · rw [q2 j hj, if_neg hne]; exact p1.file j hj hk
  · unfold lk
    rw [q3 j hj]; exact p3 j s hj
theorem makeT_err {t : List Node} {p : ByteArray} {kind mode ino : Int} {own : Bool} (h : (makeT t p kind mode ino own).2 ≠ 0) : (makeT t p kind mode ino own).1 = t := by
  revert h
  unfold makeT
  repeat' split
  all_goals first | exact fun _ => rfl | exact fun h => absurd rfl h
theorem linkT_err {t : List Node} {f p : ByteArray} {own : Bool} (h : (linkT t f p own).2 ≠ 0) : (linkT t f p own).1 = t := by
  revert h
  unfold linkT
  repeat' split
  all_goals first | exact fun _ => rfl | exact fun h => absurd rfl h
theorem delT_err {t : List Node} {p : ByteArray} {own : Bool} (h : (delT t p own).2 ≠ 0) : (delT t p own).1 = t := by
  revert h
  unfold delT
  repeat' split
  all_goals first | exact fun _ => rfl | exact fun h => absurd rfl h
theorem moveT_err {t : List Node} {f p : ByteArray} {own : Bool} (h : (moveT t f p own).2 ≠ 0) : (moveT t f p own).1 = t := by
  revert h
  unfold moveT
  repeat' split
  all_goals first | exact fun _ => rfl | exact fun h => absurd rfl h
/-- What a link that is done says. -/
theorem linkT_out {t : List Node} (hg : GoodT t) {f p : ByteArray} {own : Bool} (h : (linkT t f p own).2 = 0) :
    ∃ b nm d n, findT t f own = (n, 0) ∧ kindT t n = 1 ∧ 1 ≤ n ∧ n ≤ 9 ∧ partsS p own = (b ++ [nm], true) ∧ walkT t 1 b = (d, 0) ∧ kindT t d = 2 ∧ 1 ≤ d ∧ d ≤ 9 ∧ (lk t d nm).2 = false ∧
      Like t (linkT t f p own).1 ∧ (∀ j s, 1 ≤ j → lk (linkT t f p own).1 j s = if j = d ∧ s = nm then (n, true) else lk t j s) ∧ ∀ ino, cntT (linkT t f p own).1 ino 9 = cntT t ino 9 + if n = ino then 1 else 0 := by
  unfold linkT at h ⊢
  by_cases h1 : (partsS f own).2 = false ∨ (partsS p own).2 = false
  · rw [if_pos h1] at h; cases h
  rw [if_neg h1] at h ⊢
  by_cases h2 : (findT t f own).2 ≠ 0
  · rw [if_pos h2] at h; exact absurd h h2
  rw [if_neg h2] at h ⊢
  by_cases h3 : kindT t (findT t f own).1 = 2
  · rw [if_pos h3] at h; cases h
  rw [if_neg h3] at h ⊢
  by_cases h4 : (partsS p own).1.length = 0
  · rw [if_pos h4] at h; cases h
  rw [if_neg h4] at h ⊢
  by_cases h5 : (placeT t (partsS p own).1).2.2 ≠ 0
  · rw [if_pos h5] at h; exact absurd h h5
  rw [if_neg h5] at h ⊢
  by_cases h6 : (findD (namesT t (placeT t (partsS p own).1).1) (placeT t (partsS p own).1).2.1).2 = true
  · rw [if_pos h6] at h; cases h
  rw [if_neg h6] at h ⊢
  by_cases h7 : (putT t (placeT t (partsS p own).1).1 ((placeT t (partsS p own).1).2.1, (findT t f own).1, ())).2 = false
  · rw [if_pos h7] at h; cases h
  rw [if_neg h7]
  have hlen := hg.len
  have h2' : (findT t f own).2 = 0 := by simpa using h2
  obtain ⟨k0, k1, k2⟩ := good_find hg h2'
  obtain ⟨a, nm, d, e, pe, we, kd, d1, d9⟩ := place_out hg h4 (by simpa using h5)
  rw [pe] at h6 h7 ⊢
  obtain ⟨n, hn⟩ : ∃ n, (findT t f own).1 = n := ⟨_, rfl⟩
  simp only [hn] at h3 h6 h7 k0 k1 k2 ⊢
  have hfr : (lk t d nm).2 = false := not_true h6
  obtain ⟨p1, p2, p3⟩ := put_like (x := n) hlen d1 d9 kd hfr (not_false h7)
  have hok : (partsS p own).2 = true := by
    cases e : (partsS p own).2 with
    | true => rfl
    | false => exact absurd (.inr e) h1
  have hkind : kindT t n = 1 := by
    rcases hg.kind n k1 k2 with e | e | e
    · exact absurd e k0
    · exact e
    · exact absurd e h3
  refine ⟨a, nm, d, n, by rw [← hn, ← h2'], hkind, k1, k2, by rw [← e, ← hok], we, kd, d1, d9, hfr, p1, p3, fun ino => ?_⟩
  have h1 := cnt_upd9 (t := t) (t' := (putT t d (nm, n, ())).1) ino d1 d9 (fun j hj hne => by rw [p2 j hj, if_neg hne])
  rw [p2 d d1, if_pos rfl, cntE_ins] at h1
  simp only at h1
  omega
theorem links_law {t : List Node} (hg : GoodT t) {f p : ByteArray} {own : Bool} (h : (linkT t f p own).2 = 0) :
    ∃ n, findT t f own = (n, 0) ∧ kindT t n = 1 ∧ 1 ≤ n ∧ n ≤ 9 ∧ findT (linkT t f p own).1 p own = (n, 0) ∧ (findT t p own).2 = 2 ∧ linksT (linkT t f p own).1 n = linksT t n + 1 ∧ delT (linkT t f p own).1 p own = (t, 0) := by
  obtain ⟨b, nm, d, n, h1, h2, h3, h4, h5, h6, h7, h8, h9, h10, h11, h12, h13⟩ := linkT_out hg h
  have hgx := good_linkT hg f p own
  obtain ⟨x, hx⟩ : ∃ x, (linkT t f p own).1 = x := ⟨_, rfl⟩
  rw [hx] at h11 h12 h13 hgx ⊢
  have hlen := hg.len
  have hp2 : (partsS p own).2 = true := by rw [h5]
  have hp1 : (partsS p own).1 = b ++ [nm] := by rw [h5]
  have hwx : walkT x 1 b = (d, 0) := walk_more (t := t) (by rw [h11.len, hlen]) (fun j hj hk => by rw [h11.kind j hj]; exact hk) (fun j s hj => by
    rw [h12 j s (lk_in hj).1, if_neg]
    rintro ⟨rfl, rfl⟩
    rw [h10] at hj; cases hj) (Int.le_refl _) h6
  have hkd : kindT x d = 2 := by rw [h11.kind d h8]; exact h7
  have hld : lk x d nm = (n, true) := by rw [h12 d nm h8, if_pos ⟨rfl, rfl⟩]
  have hfx : findT x p own = (n, 0) := by
    rw [find_of hp2, hp1, walk_end hgx hwx hkd, hld]; rfl
  have hkn : kindT x n = 1 := by rw [h11.kind n h3]; exact h2
  have hn1 : n ≠ 1 := fun e => by rw [e] at h2; have := hg.root; omega
  have hc := h13 n
  rw [if_pos rfl] at hc
  have hcn : 1 ≤ cntT t n 9 := hg.named n (by omega) h4 (by omega)
  refine ⟨n, h1, h2, h3, h4, hfx, ?_, ?_, ?_⟩
  · rw [find_of hp2, hp1, walk_end hg h6 h7, if_neg (by rw [h10]; simp)]
  · unfold linksT
    rw [if_neg hn1, if_neg hn1, h11.len, hlen, hc]; rfl
  · have hgy := good_delT hgx p own
    have hpl : placeT x (partsS p own).1 = (d, nm, 0) := by
      rw [hp1]
      exact place_eq (by rw [walk0, if_neg (by rw [h11.len]; decide)]; exact hwx) hkd
    have hcut := cut_out hgx h8 h9 hkd (x := n) (nm := nm) hld
    obtain ⟨g1, _, g3⟩ := cut_like (nm := nm) h11.len h8 h9 hkd (by rw [hld])
    have hl0 : linksT (dropT x d nm) n ≠ 0 := by
      have := hcut.cnt n
      rw [if_pos rfl] at this
      unfold linksT
      rw [if_neg hn1, g1.len]; omega
    have hd : delT x p own = (dropT x d nm, 0) := by
      unfold delT
      rw [hfx, hpl, if_neg (by simp), if_neg hn1, if_neg (by rw [hkn]; simp), if_neg hl0]
    rw [hd] at hgy ⊢
    have M := h11.trans g1
    refine congrArg (fun z => (z, (0 : Int))) (tree_ext hg hgy (fun j h1 h2 => ⟨M.kind j h1, M.mode j h1⟩) (fun j h1 h2 hk => by unfold bodyT; rw [M.file j h1 hk]) fun j s h1 h2 => ?_)
    rw [g3 j s h1]
    split
    · rename_i e; rw [e.1, e.2]; exact (lk_none h10).symm
    · rename_i e
      rw [h12 j s h1, if_neg e]
end Go.Proofs.YtodkmhamaahjmaaGreatDoor
