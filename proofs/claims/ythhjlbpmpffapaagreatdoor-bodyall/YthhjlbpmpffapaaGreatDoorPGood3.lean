/- Changes of names keep trees such as may be: plain terms. -/
import Derived.Test.YthhjlbpmpffapaaGreatDoorPGood2
set_option maxRecDepth 10000
set_option maxHeartbeats 400000
set_option linter.unusedSimpArgs false
set_option linter.unusedVariables false
namespace Go.Proofs.YthhjlbpmpffapaaGreatDoor
open Go.Tm Go.IntWalk

theorem free_kind {t : List Node} (h : freeT t ≠ 0) : 1 ≤ freeT t ∧ freeT t ≤ t.length ∧ kindT t (freeT t) = 0 := by
  unfold freeT at h ⊢
  cases e : t.findIdx? (fun n => n.1 == 0) with
  | none => rw [e] at h; exact absurd rfl h
  | some i =>
    simp only
    obtain ⟨hi, hp, _⟩ := List.findIdx?_eq_some_iff_getElem.1 e
    refine ⟨by omega, by omega, ?_⟩
    unfold kindT nodeT
    rw [show ((i : Int) + 1 - 1).toNat = i by omega, List.getD_eq_getElem?_getD, List.getElem?_eq_getElem hi]
    simpa using hp
theorem no_names {t : List Node} {d x : Int} (hx : namesT t x = []) (h : Within t d x) : d = x := by
  cases h with
  | here => rfl
  | down he => rw [hx] at he; cases he
theorem absent {t : List Node} (hg : GoodT t) {x : Int} (hx : kindT t x = 0) (hl : x ≤ 9) : cntT t x 9 = 0 := by
  refine Classical.byContradiction fun hc => ?_
  obtain ⟨i, e, h1, h2, _, _⟩ := cntT_ex (n := 9) (t := t) (ino := x) (by omega)
  have := hg.there i e h1
  rw [h2] at this
  exact this hx

/-- A new name, of a node that is no folder, or of a new one. -/
theorem good_make {t : List Node} (hg : GoodT t) {d x : Int} {nm : ByteArray} {kind mode : Int} (hd : 1 ≤ d) (hl : d ≤ 9) (hk : kindT t d = 2) (hf : (findD (namesT t d) nm).2 = false) (h : (putT t d (nm, x, ())).2 = true)
    (x1 : 1 ≤ x) (x9 : x ≤ 9) (hx : kindT t x = 0) (hkd : kind = 1 ∨ kind = 2) (hm : 0 ≤ mode ∧ mode ≤ 255) : GoodT (setT (putT t d (nm, x, ())).1 x (kind, mode, no, ())) := by
  have hlen := hg.len
  obtain ⟨p1, p2, p3⟩ := put_out hd (by omega) hk hf h
  have hdx : d ≠ x := fun e => by rw [e] at hk; omega
  have hx1 : x ≠ 1 := fun e => by rw [e] at hx; have := hg.root; omega
  obtain ⟨t1, ht1⟩ : ∃ t1, (putT t d (nm, x, ())).1 = t1 := ⟨_, rfl⟩
  rw [ht1] at p2 p3 ⊢
  have hl1 : t1.length = 9 := by rw [p2, setT_len]; exact hlen
  have hn1 : ∀ j, 1 ≤ j → nodeT t1 j = if j = d then withBody (nodeT t d) (ofL (dirL (insD (nm, x, ()) (namesT t d)))) else nodeT t j := fun j hj => by
    rw [p2]; exact nodeT_set hd (by omega) hj
  have hn : ∀ j, 1 ≤ j → nodeT (setT t1 x (kind, mode, no, ())) j = if j = x then (kind, mode, no, ()) else nodeT t1 j := fun j hj => nodeT_set x1 (by omega) hj
  have hkj : ∀ j, 1 ≤ j → kindT (setT t1 x (kind, mode, no, ())) j = if j = x then kind else kindT t j := fun j hj => by
    unfold kindT
    rw [hn j hj]
    split
    · rfl
    · rw [hn1 j hj]
      split
      · rename_i e; rw [e]; rfl
      · rfl
  have hnames : ∀ j, 1 ≤ j → namesT (setT t1 x (kind, mode, no, ())) j = if j = d then insD (nm, x, ()) (namesT t d) else namesT t j := fun j hj => by
    by_cases e : j = d
    · subst e
      rw [if_pos rfl, names_node (t := t1) (setT_len _ _ _) (by rw [hn j hj, if_neg hdx]), p3]
    · rw [if_neg e]
      by_cases e2 : j = x
      · subst e2
        rw [names_file (t := t) (by rw [hx]; decide)]
        rcases hkd with hkd | hkd
        · exact names_file (by rw [hkj j hj, if_pos rfl, hkd]; decide)
        · rw [names_in hj (by rw [setT_len, hl1]; exact x9) (by rw [hkj j hj, if_pos rfl, hkd])]
          unfold bodyT
          rw [hn j hj, if_pos rfl, takeD_no]
      · exact names_node (by rw [setT_len, hl1, hlen]) (by rw [hn j hj, if_neg e2, hn1 j hj, if_neg e])
  obtain ⟨t2, ht2⟩ : ∃ t2, setT t1 x (kind, mode, no, ()) = t2 := ⟨_, rfl⟩
  have hl2 : t2.length = 9 := by rw [← ht2, setT_len]; exact hl1
  rw [ht2] at hn hkj hnames ⊢
  have hc : ∀ ino, cntT t2 ino 9 = cntT t ino 9 + if x = ino then 1 else 0 := fun ino => by
    have := cnt_upd9 (t := t) (t' := t2) ino hd hl (fun j hj hne => by rw [hnames j hj, if_neg hne])
    rw [hnames d hd, if_pos rfl, cntE_ins] at this
    simp only at this
    omega
  have hmem : ∀ j e, e ∈ namesT t2 j → (e ∈ namesT t j ∧ e.2.1 ≠ x) ∨ (j = d ∧ e = (nm, x, ())) := fun j e he => by
    rw [hnames j (names_out he).1] at he
    have key : e ∈ namesT t j → e.2.1 ≠ x := fun h e' => by
      have := hg.there j e h
      rw [e'] at this; exact this hx
    split at he
    · rename_i e1
      subst e1
      rcases mem_ins.1 he with h | h
      · exact .inr ⟨rfl, h⟩
      · exact .inl ⟨h, key h⟩
    · exact .inl ⟨he, key he⟩
  refine ⟨hl2, fun j a b => ?_, fun j a b c => ?_, fun j a b => ?_, fun j a b => ?_, fun j a b c => ?_, ?_, fun j e he => ?_, fun j a b c => ?_, ?_, fun j a b c => ?_, ?_⟩
  · rw [hkj j a]
    split
    · omega
    · exact hg.kind j a b
  · rw [hkj j a] at c
    split at c
    · omega
    · rename_i e
      have ed : j ≠ d := fun e2 => by rw [e2] at c; omega
      rw [hn j a, if_neg e, hn1 j a, if_neg ed]
      exact hg.none j a b c
  · rw [hn j a]
    split
    · exact hm
    · rw [hn1 j a]
      split
      · exact hg.mode d hd hl
      · exact hg.mode j a b
  · unfold bodyT
    rw [hn j a]
    split
    · show (no : ByteArray).size ≤ 120
      decide
    · rw [hn1 j a]
      split
      · show (ofL _).size ≤ 120
        rw [bl_size, bl_ofL]; exact p1.2.2
      · exact hg.body j a b
  · rw [hkj j a] at c
    unfold bodyT
    rw [hn j a]
    split
    · show (takeD no).2 = true
      rw [takeD_no]
    · rename_i e
      rw [if_neg e] at c
      rw [hn1 j a]
      split
      · show (takeD (ofL _)).2 = true
        rw [takeD_put p1]
      · exact hg.dir j a b c
  · rw [hkj 1 (by decide), if_neg (fun e => hx1 e.symm)]; exact hg.root
  · have hr := (okE_out (namesT_ok he)).2
    rw [hkj _ hr.1]
    rcases hmem j e he with ⟨h1, h2⟩ | ⟨_, h2⟩
    · rw [if_neg h2]; exact hg.there j e h1
    · rw [h2, if_pos rfl]; omega
  · rw [hc]
    rw [hkj j (by omega)] at c
    split at c
    · rename_i e; rw [if_pos e.symm]; omega
    · have := hg.named j a b c; omega
  · rw [hc, hg.rootless, if_neg hx1]
  · rw [hc]
    rw [hkj j (by omega)] at c
    split at c
    · rename_i e
      rw [e, if_pos rfl, absent hg hx x9]
    · rename_i e
      rw [if_neg (fun e' => e e'.symm), hg.once j a b c]
  · refine deep_keep (t := t) (d := d) (x := x) (by rw [hl2, hlen]) (fun j e he hk2 => ?_) (fun _ hw => hdx (no_names (names_file (by rw [hx]; decide)) hw)) hg.deep
    have hr := (okE_out (namesT_ok he)).2
    rcases hmem j e he with ⟨h1, h2⟩ | ⟨h1, h2⟩
    · rw [hkj _ hr.1, if_neg h2] at hk2
      exact .inl ⟨h1, hk2⟩
    · exact .inr ⟨h1, by rw [h2]⟩
theorem good_makeT {t : List Node} (hg : GoodT t) (p : ByteArray) (kind mode ino : Int) (own : Bool) : GoodT (makeT t p kind mode ino own).1 := by
  unfold makeT
  obtain ⟨N, hN0⟩ : ∃ N, (if ino = 0 then freeT t else ino) = N := ⟨_, rfl⟩
  rw [hN0]
  split
  · exact hg
  rename_i h1
  split
  · exact hg
  rename_i h2
  split
  · exact hg
  rename_i h3
  split
  · exact hg
  rename_i h4
  split
  · exact hg
  rename_i h5
  split
  · exact hg
  rename_i h6
  split
  · exact hg
  rename_i h7
  obtain ⟨q1, q2, q3, _⟩ := placeT_ok (t := t) (l := (partsS p own).1) (by simpa using h3)
  have hlen := hg.len
  have hN : 1 ≤ N ∧ N ≤ 9 ∧ kindT t N = 0 := by
    split at hN0
    · rename_i e
      subst hN0
      have := free_kind h6
      rw [hlen] at this; exact this
    · rename_i e
      subst hN0
      refine ⟨by omega, by omega, ?_⟩
      exact Classical.byContradiction fun hk => h5 ⟨by omega, .inr hk⟩
  exact good_make hg q1 (by omega) q3 (by simpa using h4) (by simpa using h7) hN.1 hN.2.1 hN.2.2 (by omega) ⟨by omega, by omega⟩
theorem good_linkT {t : List Node} (hg : GoodT t) (f p : ByteArray) (own : Bool) : GoodT (linkT t f p own).1 := by
  unfold linkT
  split
  · exact hg
  rename_i h1
  split
  · exact hg
  rename_i h2
  split
  · exact hg
  rename_i h3
  split
  · exact hg
  rename_i h4
  split
  · exact hg
  rename_i h5
  split
  · exact hg
  rename_i h6
  split
  · exact hg
  rename_i h7
  obtain ⟨q1, q2, q3, _⟩ := placeT_ok (t := t) (l := (partsS p own).1) (by simpa using h5)
  obtain ⟨k0, k1, k2⟩ := good_find hg (by simpa using h2)
  have hlen := hg.len
  obtain ⟨d, hd⟩ : ∃ d, (placeT t (partsS p own).1).1 = d := ⟨_, rfl⟩
  obtain ⟨nm, hnm⟩ : ∃ nm, (placeT t (partsS p own).1).2.1 = nm := ⟨_, rfl⟩
  obtain ⟨x, hx⟩ : ∃ x, (findT t f own).1 = x := ⟨_, rfl⟩
  simp only [hd, hnm, hx] at h3 h6 h7 q1 q2 q3 k0 k1 k2 ⊢
  obtain ⟨p1, p2, p3⟩ := put_out (e := (nm, x, ())) q1 q2 q3 (by simpa using h6) (by simpa using h7)
  obtain ⟨t1, ht1⟩ : ∃ t1, (putT t d (nm, x, ())).1 = t1 := ⟨_, rfl⟩
  rw [ht1] at p2 p3 ⊢
  have hl1 : t1.length = 9 := by rw [p2, setT_len]; exact hlen
  have hn1 : ∀ j, 1 ≤ j → nodeT t1 j = if j = d then withBody (nodeT t d) (ofL (dirL (insD (nm, x, ()) (namesT t d)))) else nodeT t j := fun j hj => by
    rw [p2]; exact nodeT_set q1 q2 hj
  have hkj : ∀ j, 1 ≤ j → kindT t1 j = kindT t j := fun j hj => by
    unfold kindT
    rw [hn1 j hj]
    split
    · rename_i e; rw [e]; rfl
    · rfl
  have hnames : ∀ j, 1 ≤ j → namesT t1 j = if j = d then insD (nm, x, ()) (namesT t d) else namesT t j := fun j hj => by
    by_cases e : j = d
    · subst e; rw [if_pos rfl, p3]
    · rw [if_neg e]; exact names_node (by rw [hl1, hlen]) (by rw [hn1 j hj, if_neg e])
  have hc : ∀ ino, cntT t1 ino 9 = cntT t ino 9 + if x = ino then 1 else 0 := fun ino => by
    have := cnt_upd9 (t := t) (t' := t1) ino q1 (by omega) (fun j hj hne => by rw [hnames j hj, if_neg hne])
    rw [hnames d q1, if_pos rfl, cntE_ins] at this
    simp only at this
    omega
  have hmem : ∀ j e, e ∈ namesT t1 j → e ∈ namesT t j ∨ (j = d ∧ e = (nm, x, ())) := fun j e he => by
    rw [hnames j (names_out he).1] at he
    split at he
    · rename_i e1
      subst e1
      rcases mem_ins.1 he with h | h
      · exact .inr ⟨rfl, h⟩
      · exact .inl h
    · exact .inl he
  have hx1 : x ≠ 1 := fun e => h3 (by rw [e]; exact hg.root)
  refine ⟨hl1, fun j a b => by rw [hkj j a]; exact hg.kind j a b, fun j a b c => ?_, fun j a b => ?_, fun j a b => ?_, fun j a b c => ?_, by rw [hkj 1 (by decide)]; exact hg.root, fun j e he => ?_, fun j a b c => ?_, by rw [hc, hg.rootless, if_neg hx1], fun j a b c => ?_, ?_⟩
  · rw [hkj j a] at c
    have ed : j ≠ d := fun e2 => by rw [e2] at c; omega
    rw [hn1 j a, if_neg ed]; exact hg.none j a b c
  · rw [hn1 j a]
    split
    · exact hg.mode d q1 (by omega)
    · exact hg.mode j a b
  · unfold bodyT
    rw [hn1 j a]
    split
    · show (ofL _).size ≤ 120
      rw [bl_size, bl_ofL]; exact p1.2.2
    · exact hg.body j a b
  · rw [hkj j a] at c
    unfold bodyT
    rw [hn1 j a]
    split
    · show (takeD (ofL _)).2 = true
      rw [takeD_put p1]
    · exact hg.dir j a b c
  · have hr := (okE_out (namesT_ok he)).2
    rw [hkj _ hr.1]
    rcases hmem j e he with h | ⟨_, h⟩
    · exact hg.there j e h
    · rw [h]; exact k0
  · rw [hkj j (by omega)] at c
    rw [hc]; have := hg.named j a b c; omega
  · rw [hkj j (by omega)] at c
    rw [hc, if_neg (fun e => h3 (by rw [e]; exact c)), hg.once j a b c]
  · refine deep_less (t := t) (by rw [hl1, hlen]) (fun j e he hk2 => ?_) hg.deep
    have hr := (okE_out (namesT_ok he)).2
    rw [hkj _ hr.1] at hk2
    rcases hmem j e he with h | ⟨_, h⟩
    · exact ⟨h, hk2⟩
    · rw [h] at hk2; exact absurd hk2 h3
end Go.Proofs.YthhjlbpmpffapaaGreatDoor
