/- Names that go keep trees such as may be: plain terms. -/
import Derived.Test.YthhjlbpmpffapaaGreatDoorPGood3
set_option maxRecDepth 10000
set_option maxHeartbeats 400000
set_option linter.unusedSimpArgs false
set_option linter.unusedVariables false
namespace Go.Proofs.YthhjlbpmpffapaaGreatDoor
open Go.Tm Go.IntWalk

theorem findD_cons (e : Ent) (l : List Ent) (nm : ByteArray) : findD (e :: l) nm = if eqB e.1 nm = true then (e.2.1, true) else findD l nm := by
  unfold findD
  rw [List.find?_cons]
  cases h : eqB e.1 nm <;> simp
theorem cntE_less {nm : ByteArray} {x : Int} (ino : Int) : ∀ {l : List Ent}, Rises l → findD l nm = (x, true) → cntE (l.filter fun e => !eqB e.1 nm) ino + (if x = ino then 1 else 0) = cntE l ino
  | [], _, hf => by cases hf
  | e :: r, hr, hf => by
    obtain ⟨h1, h2⟩ := List.pairwise_cons.1 hr
    rw [findD_cons] at hf
    cases he : eqB e.1 nm with
    | true =>
      rw [he, if_pos rfl] at hf
      injection hf with hf _
      have hnm := eqB_iff.1 he
      have hfr : r.filter (fun e => !eqB e.1 nm) = r := by
        rw [List.filter_eq_self]
        intro a ha
        have := ltB_ne (h1 a ha)
        rw [hnm] at this
        rw [eqB_ne (fun e => this e.symm)]; rfl
      rw [List.filter_cons, he]
      simp only [Bool.not_true, Bool.false_eq_true, if_false]
      rw [hfr, cntE_cons, hf]
    | false =>
      rw [he, if_neg (by decide)] at hf
      rw [List.filter_cons, he]
      simp only [Bool.not_false, if_true]
      rw [cntE_cons, cntE_cons, ← cntE_less ino h2 hf]; omega
theorem less_found {l : List Ent} {nm : ByteArray} {x : Int} (hf : findD l nm = (x, true)) : (lessD l nm).1 = l.filter fun e => !eqB e.1 nm := by
  unfold lessD
  rw [hf, if_pos rfl]

theorem lessD_mem' {l : List Ent} {nm : ByteArray} {x : Ent} (h : x ∈ (lessD l nm).1) : x ∈ l := by
  unfold lessD at h
  split at h
  · exact (List.mem_filter.1 h).1
  · exact h
/-- What is known where a name was cut out. -/
structure Cut (t : List Node) (d : Int) (nm : ByteArray) (x : Int) (t1 : List Node) : Prop where mk ::
  len : t1.length = 9
  node : ∀ j, 1 ≤ j → nodeT t1 j = if j = d then withBody (nodeT t d) (ofL (dirL (lessD (namesT t d) nm).1)) else nodeT t j
  ok : dirOK (lessD (namesT t d) nm).1
  kind : ∀ j, 1 ≤ j → kindT t1 j = kindT t j
  names : ∀ j, 1 ≤ j → namesT t1 j = if j = d then (lessD (namesT t d) nm).1 else namesT t j
  cnt : ∀ ino, cntT t1 ino 9 + (if x = ino then 1 else 0) = cntT t ino 9
  mem : ∀ j e, e ∈ namesT t1 j → e ∈ namesT t j
theorem cut_out {t : List Node} (hg : GoodT t) {d x : Int} {nm : ByteArray} (hd : 1 ≤ d) (hl : d ≤ 9) (hk : kindT t d = 2) (hf : findD (namesT t d) nm = (x, true)) : Cut t d nm x (dropT t d nm) := by
  have hlen := hg.len
  obtain ⟨p1, p2, p3⟩ := drop_out hg (nm := nm) hd hl hk
  have hl1 : (dropT t d nm).length = 9 := by rw [dropT_len]; exact hlen
  have hn : ∀ j, 1 ≤ j → nodeT (dropT t d nm) j = if j = d then withBody (nodeT t d) (ofL (dirL (lessD (namesT t d) nm).1)) else nodeT t j := fun j hj => by
    rw [p2]; exact nodeT_set hd (by omega) hj
  have hkj : ∀ j, 1 ≤ j → kindT (dropT t d nm) j = kindT t j := fun j hj => by
    unfold kindT
    rw [hn j hj]
    split
    · rename_i e; rw [e]; rfl
    · rfl
  have hnames : ∀ j, 1 ≤ j → namesT (dropT t d nm) j = if j = d then (lessD (namesT t d) nm).1 else namesT t j := fun j hj => by
    by_cases e : j = d
    · subst e; rw [if_pos rfl, p3]
    · rw [if_neg e]; exact names_node (by rw [hl1, hlen]) (by rw [hn j hj, if_neg e])
  refine ⟨hl1, hn, p1, hkj, hnames, fun ino => ?_, fun j e he => ?_⟩
  · have h1 := cnt_upd9 (t := t) (t' := dropT t d nm) ino hd hl (fun j hj hne => by rw [hnames j hj, if_neg hne])
    have h2 := cntE_less ino (hg.take hd hl hk).2.1.2.1 hf
    rw [hnames d hd, if_pos rfl, less_found hf] at h1
    omega
  · rw [hnames j (names_out he).1] at he
    split at he
    · rename_i e1; subst e1; exact lessD_mem' he
    · exact he
theorem good_delT {t : List Node} (hg : GoodT t) (p : ByteArray) (own : Bool) : GoodT (delT t p own).1 := by
  unfold delT
  split
  · exact hg
  rename_i h1
  split
  · exact hg
  rename_i h2
  split
  · exact hg
  rename_i h3
  have h1 : (findT t p own).2 = 0 := by simpa using h1
  have hne := find_root h1 h2
  obtain ⟨k0, k1, k2⟩ := good_find hg h1
  obtain ⟨q1, _, q3⟩ := walk_snoc (by rw [← (find_parts h1).2]; exact h1) hne
  rw [← (find_parts h1).2] at q3
  obtain ⟨v1, v2, v3, _⟩ := placeT_ok q1
  have hlen := hg.len
  obtain ⟨d, hd⟩ : ∃ d, (placeT t (partsS p own).1).1 = d := ⟨_, rfl⟩
  obtain ⟨nm, hnm⟩ : ∃ nm, (placeT t (partsS p own).1).2.1 = nm := ⟨_, rfl⟩
  obtain ⟨x, hx⟩ : ∃ x, (findT t p own).1 = x := ⟨_, rfl⟩
  simp only [hd, hnm, hx] at h2 h3 k0 k1 k2 q3 v1 v2 v3 ⊢
  have c := cut_out hg v1 (by omega) v3 q3
  obtain ⟨t1, ht1⟩ : ∃ t1, dropT t d nm = t1 := ⟨_, rfl⟩
  rw [ht1] at c ⊢
  have hx0 : namesT t x = [] := by
    by_cases k : kindT t x = 2
    · rw [names_in k1 (by omega) k]
      have : bodyT t x = no := Classical.byContradiction fun hb => h3 ⟨k, hb⟩
      rw [this, takeD_no]
    · exact names_file k
  have hxd : x ≠ d := fun e => by rw [← e, hx0] at q3; cases q3
  have hdir : ∀ j, 1 ≤ j → j ≤ 9 → kindT t j = 2 → (takeD (bodyT t1 j)).2 = true := fun j a b k => by
    unfold bodyT
    rw [c.node j a]
    split
    · show (takeD (ofL _)).2 = true
      rw [takeD_put c.ok]
    · exact hg.dir j a b k
  have hmode : ∀ j, 1 ≤ j → j ≤ 9 → 0 ≤ (nodeT t1 j).2.1 ∧ (nodeT t1 j).2.1 ≤ 255 := fun j a b => by
    rw [c.node j a]
    split
    · exact hg.mode d v1 (by omega)
    · exact hg.mode j a b
  have hbody : ∀ j, 1 ≤ j → j ≤ 9 → (bodyT t1 j).size ≤ 120 := fun j a b => by
    unfold bodyT
    rw [c.node j a]
    split
    · show (ofL _).size ≤ 120
      rw [bl_size, bl_ofL]; exact c.ok.2.2
    · exact hg.body j a b
  have hnone : ∀ j, 1 ≤ j → j ≤ 9 → kindT t j = 0 → nodeT t1 j = dfltN := fun j a b k => by
    have ed : j ≠ d := fun e2 => by rw [e2] at k; omega
    rw [c.node j a, if_neg ed]; exact hg.none j a b k
  split
  · rename_i h4
    show GoodT (setT t1 x dfltN)
    have h4 : cntT t1 x 9 = 0 := by
      unfold linksT at h4
      rw [if_neg h2, c.len] at h4
      omega
    have hn2 : ∀ j, 1 ≤ j → nodeT (setT t1 x dfltN) j = if j = x then dfltN else nodeT t1 j := fun j hj => nodeT_set k1 (by rw [c.len]; exact k2) hj
    have hk2 : ∀ j, 1 ≤ j → kindT (setT t1 x dfltN) j = if j = x then 0 else kindT t j := fun j hj => by
      unfold kindT
      rw [hn2 j hj]
      split
      · rfl
      · exact c.kind j hj
    have hnm2 : ∀ j, 1 ≤ j → namesT (setT t1 x dfltN) j = namesT t1 j := fun j hj => by
      by_cases e : j = x
      · subst e
        rw [names_file (by rw [hk2 j hj, if_pos rfl]; decide), c.names j hj, if_neg hxd, hx0]
      · exact names_node (setT_len _ _ _) (by rw [hn2 j hj, if_neg e])
    have hc2 : ∀ ino, cntT (setT t1 x dfltN) ino 9 = cntT t1 ino 9 := fun ino => cnt_same ino hnm2 9
    have hmem2 : ∀ j e, e ∈ namesT (setT t1 x dfltN) j → e ∈ namesT t1 j ∧ e.2.1 ≠ x := fun j e he => by
      have ho := names_out he
      rw [hnm2 j ho.1] at he
      refine ⟨he, fun e1 => ?_⟩
      have h9 : j ≤ 9 := by have := ho.2.1; rw [setT_len, c.len] at this; exact this
      have := cntT_mem he (n := 9) (by omega)
      rw [e1] at this; omega
    obtain ⟨t2, ht2⟩ : ∃ t2, setT t1 x dfltN = t2 := ⟨_, rfl⟩
    have hl2 : t2.length = 9 := by rw [← ht2, setT_len]; exact c.len
    rw [ht2] at hn2 hk2 hnm2 hc2 hmem2 ⊢
    have hcc := c.cnt
    refine ⟨hl2, fun j a b => ?_, fun j a b k => ?_, fun j a b => ?_, fun j a b => ?_, fun j a b k => ?_, ?_, fun j e he => ?_, fun j a b k => ?_, ?_, fun j a b k => ?_, ?_⟩
    · rw [hk2 j a]
      split
      · exact .inl rfl
      · exact hg.kind j a b
    · rw [hk2 j a] at k
      rw [hn2 j a]
      split
      · rfl
      · rename_i e; rw [if_neg e] at k; exact hnone j a b k
    · rw [hn2 j a]
      split
      · exact ⟨by decide, by decide⟩
      · exact hmode j a b
    · unfold bodyT
      rw [hn2 j a]
      split
      · decide
      · exact hbody j a b
    · rw [hk2 j a] at k
      unfold bodyT
      rw [hn2 j a]
      split
      · rename_i e; rw [if_pos e] at k; cases k
      · rename_i e; rw [if_neg e] at k; exact hdir j a b k
    · rw [hk2 1 (by decide), if_neg (fun e => h2 e.symm)]; exact hg.root
    · have hr := (okE_out (namesT_ok he)).2
      obtain ⟨m1, m2⟩ := hmem2 j e he
      rw [hk2 _ hr.1, if_neg m2]
      exact hg.there j e (c.mem j e m1)
    · rw [hk2 j (by omega)] at k
      split at k
      · exact absurd rfl k
      · rename_i e
        rw [hc2]
        have := hg.named j a b k
        have := hcc j
        rw [if_neg (fun e' => e e'.symm)] at this
        omega
    · rw [hc2]
      have := hcc 1
      have := hg.rootless
      omega
    · rw [hk2 j (by omega)] at k
      split at k
      · cases k
      · rename_i e
        rw [hc2]
        have := hg.once j a b k
        have := hcc j
        rw [if_neg (fun e' => e e'.symm)] at this
        omega
    · refine deep_less (t := t) (by rw [hl2, hlen]) (fun j e he hk3 => ?_) hg.deep
      have hr := (okE_out (namesT_ok he)).2
      obtain ⟨m1, m2⟩ := hmem2 j e he
      rw [hk2 _ hr.1, if_neg m2] at hk3
      exact ⟨c.mem j e m1, hk3⟩
  · rename_i h4
    show GoodT t1
    have h4 : cntT t1 x 9 ≠ 0 := fun e => h4 (by
      unfold linksT
      rw [if_neg h2, c.len, e]; rfl)
    have hcc := c.cnt
    have hkx : kindT t x ≠ 2 := fun k => by
      have := hg.once x (by omega) k2 k
      have := hcc x
      rw [if_pos rfl] at this
      omega
    refine ⟨c.len, fun j a b => by rw [c.kind j a]; exact hg.kind j a b, fun j a b k => hnone j a b (by rw [← c.kind j a]; exact k), hmode, hbody, fun j a b k => hdir j a b (by rw [← c.kind j a]; exact k), by rw [c.kind 1 (by decide)]; exact hg.root, fun j e he => ?_, fun j a b k => ?_, ?_, fun j a b k => ?_, ?_⟩
    · have hr := (okE_out (namesT_ok he)).2
      rw [c.kind _ hr.1]; exact hg.there j e (c.mem j e he)
    · rw [c.kind j (by omega)] at k
      have := hg.named j a b k
      have := hcc j
      by_cases e : x = j
      · rw [e] at h4; omega
      · rw [if_neg e] at this; omega
    · have := hcc 1
      have := hg.rootless
      omega
    · rw [c.kind j (by omega)] at k
      have := hg.once j a b k
      have := hcc j
      rw [if_neg (fun e => hkx (by rw [e]; exact k))] at this
      omega
    · refine deep_less (t := t) (by rw [c.len, hlen]) (fun j e he hk3 => ?_) hg.deep
      have hr := (okE_out (namesT_ok he)).2
      rw [c.kind _ hr.1] at hk3
      exact ⟨c.mem j e he, hk3⟩
theorem good_moveT {t : List Node} (hg : GoodT t) (f p : ByteArray) (own : Bool) : GoodT (moveT t f p own).1 := by
  unfold moveT
  split
  · exact hg
  rename_i h1
  split
  · exact hg
  rename_i h2
  split
  · exact hg
  rename_i h3
  split
  · exact hg
  rename_i h4
  split
  · exact hg
  rename_i h5
  split
  · exact hg
  rename_i h6
  split
  · exact hg
  rename_i h7
  split
  · exact hg
  rename_i h8
  split
  · exact hg
  rename_i h9
  have h2 : (findT t f own).2 = 0 := by simpa using h2
  have hne := find_root h2 h3
  obtain ⟨k0, k1, k2⟩ := good_find hg h2
  obtain ⟨q1, _, q3⟩ := walk_snoc (by rw [← (find_parts h2).2]; exact h2) hne
  rw [← (find_parts h2).2] at q3
  obtain ⟨v1, v2, v3, _⟩ := placeT_ok q1
  obtain ⟨w1, w2, w3, _⟩ := placeT_ok (t := t) (l := (partsS p own).1) (by simpa using h5)
  have hlen := hg.len
  obtain ⟨U, hU⟩ : ∃ U, (placeT t (partsS f own).1).1 = U := ⟨_, rfl⟩
  obtain ⟨nu, hnu⟩ : ∃ nu, (placeT t (partsS f own).1).2.1 = nu := ⟨_, rfl⟩
  obtain ⟨W, hW⟩ : ∃ W, (placeT t (partsS p own).1).1 = W := ⟨_, rfl⟩
  obtain ⟨nw, hnw⟩ : ∃ nw, (placeT t (partsS p own).1).2.1 = nw := ⟨_, rfl⟩
  obtain ⟨x, hx⟩ : ∃ x, (findT t f own).1 = x := ⟨_, rfl⟩
  simp only [hU, hnu, hW, hnw, hx] at h3 h6 h7 h8 h9 k0 k1 k2 q3 v1 v2 v3 w1 w2 w3 ⊢
  have c := cut_out hg v1 (by omega) v3 q3
  obtain ⟨t1, ht1⟩ : ∃ t1, dropT t U nu = t1 := ⟨_, rfl⟩
  rw [ht1] at c h9 ⊢
  have hf1 : (findD (namesT t1 W) nw).2 = false := by
    have h7 : (findD (namesT t W) nw).2 = false := by simpa using h7
    have hno := (findD_none h7).2
    cases e : (findD (namesT t1 W) nw).2 with
    | false => rfl
    | true =>
      obtain ⟨a, ha, ha2, _⟩ := findD_mem e
      exact absurd ha2 (hno a (c.mem W a ha))
  obtain ⟨p1, p2, p3⟩ := put_out (e := (nw, x, ())) w1 (by rw [c.len]; omega) (by rw [c.kind W w1]; exact w3) hf1 (by simpa using h9)
  obtain ⟨t2, ht2⟩ : ∃ t2, (putT t1 W (nw, x, ())).1 = t2 := ⟨_, rfl⟩
  rw [ht2] at p2 p3 ⊢
  have hl2 : t2.length = 9 := by rw [p2, setT_len]; exact c.len
  have hn2 : ∀ j, 1 ≤ j → nodeT t2 j = if j = W then withBody (nodeT t1 W) (ofL (dirL (insD (nw, x, ()) (namesT t1 W)))) else nodeT t1 j := fun j hj => by
    rw [p2]; exact nodeT_set w1 (by rw [c.len]; omega) hj
  have hk2 : ∀ j, 1 ≤ j → kindT t2 j = kindT t j := fun j hj => by
    rw [← c.kind j hj]
    unfold kindT
    rw [hn2 j hj]
    split
    · rename_i e; rw [e]; rfl
    · rfl
  have hnm2 : ∀ j, 1 ≤ j → namesT t2 j = if j = W then insD (nw, x, ()) (namesT t1 W) else namesT t1 j := fun j hj => by
    by_cases e : j = W
    · subst e; rw [if_pos rfl, p3]
    · rw [if_neg e]; exact names_node (by rw [hl2, c.len]) (by rw [hn2 j hj, if_neg e])
  have hc2 : ∀ ino, cntT t2 ino 9 = cntT t ino 9 := fun ino => by
    have h := cnt_upd9 (t := t1) (t' := t2) ino w1 (by omega) (fun j hj hne => by rw [hnm2 j hj, if_neg hne])
    rw [hnm2 W w1, if_pos rfl, cntE_ins] at h
    have := c.cnt ino
    simp only at h
    omega
  have hmem2 : ∀ j e, e ∈ namesT t2 j → e ∈ namesT t1 j ∨ (j = W ∧ e = (nw, x, ())) := fun j e he => by
    rw [hnm2 j (names_out he).1] at he
    split at he
    · rename_i e1
      subst e1
      rcases mem_ins.1 he with h | h
      · exact .inr ⟨rfl, h⟩
      · exact .inl h
    · exact .inl he
  refine ⟨hl2, fun j a b => by rw [hk2 j a]; exact hg.kind j a b, fun j a b k => ?_, fun j a b => ?_, fun j a b => ?_, fun j a b k => ?_, by rw [hk2 1 (by decide)]; exact hg.root, fun j e he => ?_, fun j a b k => ?_, by rw [hc2]; exact hg.rootless, fun j a b k => ?_, ?_⟩
  · rw [hk2 j a] at k
    have e1 : j ≠ W := fun e => by rw [e] at k; omega
    have e2 : j ≠ U := fun e => by rw [e] at k; omega
    rw [hn2 j a, if_neg e1, c.node j a, if_neg e2]; exact hg.none j a b k
  · have hm1 : ∀ j, 1 ≤ j → j ≤ 9 → 0 ≤ (nodeT t1 j).2.1 ∧ (nodeT t1 j).2.1 ≤ 255 := fun j a b => by
      rw [c.node j a]
      split
      · exact hg.mode U v1 (by omega)
      · exact hg.mode j a b
    rw [hn2 j a]
    split
    · exact hm1 W w1 (by omega)
    · exact hm1 j a b
  · unfold bodyT
    rw [hn2 j a]
    split
    · show (ofL _).size ≤ 120
      rw [bl_size, bl_ofL]; exact p1.2.2
    · rw [c.node j a]
      split
      · show (ofL _).size ≤ 120
        rw [bl_size, bl_ofL]; exact c.ok.2.2
      · exact hg.body j a b
  · rw [hk2 j a] at k
    unfold bodyT
    rw [hn2 j a]
    split
    · show (takeD (ofL _)).2 = true
      rw [takeD_put p1]
    · rw [c.node j a]
      split
      · show (takeD (ofL _)).2 = true
        rw [takeD_put c.ok]
      · exact hg.dir j a b k
  · have hr := (okE_out (namesT_ok he)).2
    rw [hk2 _ hr.1]
    rcases hmem2 j e he with h | ⟨_, h⟩
    · exact hg.there j e (c.mem j e h)
    · rw [h]; exact k0
  · rw [hk2 j (by omega)] at k
    rw [hc2]; exact hg.named j a b k
  · rw [hk2 j (by omega)] at k
    rw [hc2]; exact hg.once j a b k
  · have hless : ∀ i e, e ∈ namesT t1 i → kindT t1 e.2.1 = 2 → e ∈ namesT t i ∧ kindT t e.2.1 = 2 := fun i e he hk => by
      have hr := (okE_out (namesT_ok he)).2
      rw [c.kind _ hr.1] at hk
      exact ⟨c.mem i e he, hk⟩
    have hd1 : allDeep t1 := deep_less (t := t) (by rw [c.len, hlen]) hless hg.deep
    refine deep_keep (t := t1) (d := W) (x := x) (by rw [hl2, c.len]) (fun j e he hk3 => ?_) (fun hkx hw => ?_) hd1
    · have hr := (okE_out (namesT_ok he)).2
      rw [hk2 _ hr.1] at hk3
      rcases hmem2 j e he with h | ⟨h, h'⟩
      · exact .inl ⟨h, by rw [c.kind _ hr.1]; exact hk3⟩
      · exact .inr ⟨h, by rw [h']⟩
    · rw [hk2 x k1] at hkx
      exact h8 ⟨hkx, withinB_yes (within_less (by rw [c.len, hlen]) hless hw)⟩
end Go.Proofs.YthhjlbpmpffapaaGreatDoor
