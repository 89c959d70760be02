/- edit: Link's function: on the machine. -/
import Derived.Test.YtodkmhamaahjmaaGreatDoorG8
import Derived.Test.YtodkmhamaahjmaaGreatDoorPEdit
set_option maxRecDepth 100000
set_option maxHeartbeats 4000000
set_option linter.unusedSimpArgs false
set_option linter.unusedVariables false
set_option pp.deepTerms.threshold 20
namespace Go.Proofs.YtodkmhamaahjmaaGreatDoor
open Go.Tm Go.IntWalk Go.RowKit
theorem names_folder {t : List Node} {i : Int} (h1 : 1 ≤ i) (h2 : i ≤ t.length) (hk : kindT t i = 2) : namesT t i = (takeD (bodyT t i)).1 := by
  rw [namesT, if_neg]
  rintro (h | h | h)
  · omega
  · omega
  · exact h hk
theorem two_cells {w : World} {b : Nat} {u v : ByteArray} {T : TypeId} (h : w.heap[b]? = some (.cells #[.string u, .string v] T)) : ∀ k (hk : k < [u, v].length), w.cell? ⟨b, k, none⟩ = some (.string [u, v][k]) := fun k hk => by
  obtain ⟨h0, h1, _⟩ := box2 h
  rcases (show k = 0 ∨ k = 1 by simp at hk; omega) with rfl | rfl
  · exact h0
  · exact h1
theorem allP_two (f p : ByteArray) (own : Bool) : allP [f, p] own = ((partsS f own).2 && (partsS p own).2) := by
  show ((partsS f own).2 && ((partsS p own).2 && true)) = _
  rw [Bool.and_true]
theorem place_name_size {t : List Node} (p : ByteArray) (own : Bool) (h2 : ¬ (partsS p own).1.length = 0) (h3 : (placeT t (partsS p own).1).2.2 = 0) : (placeT t (partsS p own).1).2.1.size ≤ 4000000000 := by
  obtain ⟨_, _, _, e, _⟩ := placeT_ok h3
  rw [e]
  have hm := part_small (own := own) (parts_ok (s := p) (own := own)).2
  rw [List.getLast?_eq_getElem?, List.getElem?_eq_getElem (by omega)]
  have := hm _ (List.getElem_mem (show (partsS p own).1.length - 1 < (partsS p own).1.length by omega))
  show ByteArray.size _ ≤ _
  exact Nat.le_trans this (by decide)
theorem link1_calls {w0 w : World} {b : Nat} {ad : Addr} {c : Nat} {t : List Node} {own : Bool} (h : WK w0 w b ad c t own) (hf : fitT t) (f p : ByteArray) (hsf : f.size ≤ 1000000000) (hsp : p.size ≤ 1000000000) {p1 p2 : Nat}
    (hp1 : w.heap[p1]? = some (.cells #[.string f] 9)) (hp2 : w.heap[p2]? = some (.cells #[.string p] 9)) :
    Calls Tryz.prog 45 #[.pointer (some ⟨b, 0, none⟩), .pointer (some ⟨p1, 0, none⟩), .pointer (some ⟨p2, 0, none⟩)] w fun en w' => en = (if (linkT t f p own).2 = 0 then .returned (.tuple #[]) else UpE (linkT t f p own).2) ∧ ((linkT t f p own).2 = 0 → WK w0 w' b ad c (linkT t f p own).1 own) ∧ But w (some ad) w' := by
  have mixed : Tryz.prog.follows .mixedOrders = true := by kernel_rfl
  have h9 := h.2.2.1
  obtain ⟨x0, x1, x2⟩ := h.cells
  obtain ⟨z1, _, _⟩ := box1 hp1
  obtain ⟨z2, _, _⟩ := box1 hp2
  have bw0 : But w none (w.alloc (.cells #[.string f, .string p] 9)) := but_alloc _ _ _
  have eb0 : (w.alloc (.cells #[.string f, .string p] 9)).heap[w.heap.size]? = some (.cells #[.string f, .string p] 9) := (MapKept.heap_alloc w _).1
  have hsz : ∀ s ∈ [f, p], s.size ≤ 1000000000 := fun s hs => by
    rcases List.mem_cons.1 hs with rfl | hs
    · exact hsf
    · rw [List.mem_singleton.1 hs]; exact hsp
  have hways := ways_calls (h.move bw0) [f, p] (show 2 ≤ 1000 by decide) hsz (cap := 2) (two_cells eb0) (Array.getElem?_eq_some_iff.1 eb0).1
  rw [allP_two] at hways
  have HZ : Hid (∀ s ∈ [f, p], s.size ≤ 1000000000) := hsz
  have hL := linkT.eq_1 t f p own
  obtain ⟨G, hG⟩ : ∃ G, linkT t f p own = G := ⟨_, rfl⟩
  rw [hG] at hL ⊢
  clear hG hsz
  by_cases hA : ((partsS f own).2 && (partsS p own).2) = true
  case neg =>
    have hA' : (partsS f own).2 = false ∨ (partsS p own).2 = false := by
      cases e1 : (partsS f own).2 <;> cases e2 : (partsS p own).2 <;> simp_all
    rw [if_pos hA'] at hL
    have hgo : UpE (1) = (if G.2 = 0 then Ending.returned (.tuple #[]) else UpE G.2) := by rw [hL]; exact (if_neg (show ¬ (1 : Int) = 0 by decide)).symm
    have HL : Hid _ := hL
    have HG : Hid _ := hgo
    have HA : Hid _ := hA
    clear hA'
    clear hL hgo hA
    go_enter Tryz.func45, Tryz.ntmps45
    go_wp2_with fail
    refine hways.mono ?_
    clear hways
    rintro _ wa ⟨ea, ba⟩
    rw [if_neg HA.out] at ea
    subst ea
    exact ⟨rfl, HG.out, fun h => (by rw [HL.out] at h; cases h), but_any (bw0.trans ba)⟩
  obtain ⟨hA, hB⟩ := Bool.and_eq_true_iff.1 hA
  rw [if_neg (by rw [hA, hB]; simp)] at hL
  by_cases h0 : (findT t f own).2 = 0
  case neg =>
    rw [if_pos h0] at hL
    have hgo : UpE ((findT t f own).2) = (if G.2 = 0 then Ending.returned (.tuple #[]) else UpE G.2) := by rw [hL]; exact (if_neg h0).symm
    have HL : Hid _ := hL
    have HG : Hid _ := hgo
    have HA : Hid _ := hA
    have HB : Hid _ := hB
    clear hB
    clear hL hgo hA
    go_enter Tryz.func45, Tryz.ntmps45
    go_wp2_with fail
    refine hways.mono ?_
    clear hways
    rintro _ wa ⟨ea, ba⟩
    rw [if_pos (by rw [HA.out, HB.out]; rfl)] at ea
    subst ea
    have ha := h.move (bw0.trans ba)
    obtain ⟨a1, _, _⟩ := box1 (but_box hp1 (bw0.trans ba))
    obtain ⟨a2, _, _⟩ := box1 (but_box hp2 (bw0.trans ba))
    go_wp2_with fail
    refine (wfind_no ha hf f hsf h0).mono ?_
    rintro _ wb ⟨rfl, bb⟩
    exact ⟨rfl, HG.out, fun h => (by rw [HL.out] at h; exact absurd h h0), but_any ((bw0.trans ba).trans bb)⟩
  rw [if_neg (by rw [h0]; simp)] at hL
  have hrg := findT_range h0
  obtain ⟨k, hk⟩ : ∃ k : Nat, (findT t f own).1 = (k : Int) + 1 := ⟨((findT t f own).1 - 1).toNat, by omega⟩
  have hk9 : k < 9 := by omega
  rw [hk] at hL
  by_cases h1 : kindT t ((k : Int) + 1) = 2
  case pos =>
    rw [if_pos h1] at hL
    have hgo : UpE (4) = (if G.2 = 0 then Ending.returned (.tuple #[]) else UpE G.2) := by rw [hL]; exact (if_neg (show ¬ (4 : Int) = 0 by decide)).symm
    have HL : Hid _ := hL
    have HG : Hid _ := hgo
    have HA : Hid _ := hA
    have HB : Hid _ := hB
    clear hB
    clear hL hgo hA
    go_enter Tryz.func45, Tryz.ntmps45
    go_wp2_with fail
    refine hways.mono ?_
    clear hways
    rintro _ wa ⟨ea, ba⟩
    rw [if_pos (by rw [HA.out, HB.out]; rfl)] at ea
    subst ea
    have ha := h.move (bw0.trans ba)
    obtain ⟨a1, _, _⟩ := box1 (but_box hp1 (bw0.trans ba))
    obtain ⟨a2, _, _⟩ := box1 (but_box hp2 (bw0.trans ba))
    go_wp2_with fail
    refine (wfind_ok ha hf f hsf h0).mono ?_
    rintro _ wb ⟨rfl, bb⟩
    rw [hk]
    have hb := ha.move bb
    obtain ⟨c1, _, _⟩ := box1 (but_box (but_box hp1 (bw0.trans ba)) bb)
    obtain ⟨c2, _, _⟩ := box1 (but_box (but_box hp2 (bw0.trans ba)) bb)
    obtain ⟨ab, ao, rfl, n0, nb, n1, n2, n3, n4, n5, n6⟩ := hb.node hk9
    go_wp2_with fail
    refine (node_calls hb hk9).mono ?_
    rintro _ wb2 ⟨rfl, rfl⟩
    rw [show (nodeT t ((k : Int) + 1)).1 = 2 from h1] at n1
    go_wp2_with fail
    refine (no_yes _ _).mono ?_
    rintro _ wc ⟨rfl, rfl⟩
    exact ⟨rfl, HG.out, fun h => (by rw [HL.out] at h; cases h), but_any ((bw0.trans ba).trans bb)⟩
  rw [if_neg h1] at hL
  by_cases h2 : (partsS p own).1.length = 0
  case pos =>
    rw [if_pos h2] at hL
    have H1 : Hid _ := h1
    have hk3 : (kindT t ((k : Int) + 1) == 2) = false := beq_false_of_ne h1
    have H2 : Hid _ := h2
    clear h1 h2
    have hgo : UpE (3) = (if G.2 = 0 then Ending.returned (.tuple #[]) else UpE G.2) := by rw [hL]; exact (if_neg (show ¬ (3 : Int) = 0 by decide)).symm
    have HL : Hid _ := hL
    have HG : Hid _ := hgo
    have HA : Hid _ := hA
    have HB : Hid _ := hB
    clear hB
    clear hL hgo hA
    go_enter Tryz.func45, Tryz.ntmps45
    go_wp2_with fail
    refine hways.mono ?_
    clear hways
    rintro _ wa ⟨ea, ba⟩
    rw [if_pos (by rw [HA.out, HB.out]; rfl)] at ea
    subst ea
    have ha := h.move (bw0.trans ba)
    obtain ⟨a1, _, _⟩ := box1 (but_box hp1 (bw0.trans ba))
    obtain ⟨a2, _, _⟩ := box1 (but_box hp2 (bw0.trans ba))
    go_wp2_with fail
    refine (wfind_ok ha hf f hsf h0).mono ?_
    rintro _ wb ⟨rfl, bb⟩
    rw [hk]
    have hb := ha.move bb
    obtain ⟨c1, _, _⟩ := box1 (but_box (but_box hp1 (bw0.trans ba)) bb)
    obtain ⟨c2, _, _⟩ := box1 (but_box (but_box hp2 (bw0.trans ba)) bb)
    obtain ⟨ab, ao, rfl, n0, nb, n1, n2, n3, n4, n5, n6⟩ := hb.node hk9
    go_wp2_with fail
    refine (node_calls hb hk9).mono ?_
    rintro _ wb2 ⟨rfl, rfl⟩
    rw [show (nodeT t ((k : Int) + 1)).1 = kindT t ((k : Int) + 1) from rfl] at n1
    go_wp2_with fail
    refine (no_no _ _).mono ?_
    rintro _ wc ⟨rfl, rfl⟩
    go_wp2_with fail
    refine (place_none hb hf p hsp H2.out).mono ?_
    rintro _ wd ⟨rfl, bd⟩
    exact ⟨rfl, HG.out, fun h => (by rw [HL.out] at h; cases h), but_any (((bw0.trans ba).trans bb).trans bd)⟩
  rw [if_neg h2] at hL
  by_cases h3 : (placeT t (partsS p own).1).2.2 = 0
  case neg =>
    rw [if_pos h3] at hL
    have H1 : Hid _ := h1
    have hk3 : (kindT t ((k : Int) + 1) == 2) = false := beq_false_of_ne h1
    have H2 : Hid _ := h2
    clear h1 h2
    have hgo : UpE ((placeT t (partsS p own).1).2.2) = (if G.2 = 0 then Ending.returned (.tuple #[]) else UpE G.2) := by rw [hL]; exact (if_neg h3).symm
    have H3 : Hid _ := h3
    clear h3
    have HL : Hid _ := hL
    have HG : Hid _ := hgo
    have HA : Hid _ := hA
    have HB : Hid _ := hB
    clear hB
    clear hL hgo hA
    go_enter Tryz.func45, Tryz.ntmps45
    go_wp2_with fail
    refine hways.mono ?_
    clear hways
    rintro _ wa ⟨ea, ba⟩
    rw [if_pos (by rw [HA.out, HB.out]; rfl)] at ea
    subst ea
    have ha := h.move (bw0.trans ba)
    obtain ⟨a1, _, _⟩ := box1 (but_box hp1 (bw0.trans ba))
    obtain ⟨a2, _, _⟩ := box1 (but_box hp2 (bw0.trans ba))
    go_wp2_with fail
    refine (wfind_ok ha hf f hsf h0).mono ?_
    rintro _ wb ⟨rfl, bb⟩
    rw [hk]
    have hb := ha.move bb
    obtain ⟨c1, _, _⟩ := box1 (but_box (but_box hp1 (bw0.trans ba)) bb)
    obtain ⟨c2, _, _⟩ := box1 (but_box (but_box hp2 (bw0.trans ba)) bb)
    obtain ⟨ab, ao, rfl, n0, nb, n1, n2, n3, n4, n5, n6⟩ := hb.node hk9
    go_wp2_with fail
    refine (node_calls hb hk9).mono ?_
    rintro _ wb2 ⟨rfl, rfl⟩
    rw [show (nodeT t ((k : Int) + 1)).1 = kindT t ((k : Int) + 1) from rfl] at n1
    go_wp2_with fail
    refine (no_no _ _).mono ?_
    rintro _ wc ⟨rfl, rfl⟩
    go_wp2_with fail
    refine (place_some hb hf p hsp H2.out).mono ?_
    rintro _ wd ⟨ed, bd⟩
    rw [if_neg H3.out] at ed
    subst ed
    exact ⟨rfl, HG.out, fun h => (by rw [HL.out] at h; exact absurd h H3.out), but_any (((bw0.trans ba).trans bb).trans bd)⟩
  rw [if_neg (by rw [h3]; simp)] at hL
  obtain ⟨pr1, pr2, pr3, _⟩ := placeT_ok h3
  have HN : Hid _ := names_folder pr1 pr2 pr3
  obtain ⟨q, hq⟩ : ∃ q : Nat, (placeT t (partsS p own).1).1 = (q : Int) + 1 := ⟨((placeT t (partsS p own).1).1 - 1).toNat, by omega⟩
  have hq9 : q < 9 := by omega
  obtain ⟨S, hS⟩ : ∃ S, (placeT t (partsS p own).1).2.1 = S := ⟨_, rfl⟩
  have HF : Hid _ := hq
  have HS : Hid _ := hS
  clear pr1 pr2 pr3
  rw [hq, hS] at hL
  have hnm : namesT t ((q : Int) + 1) = (takeD (bodyT t ((q : Int) + 1))).1 := by rw [← hq]; exact HN.out
  have hSz : S.size ≤ 4000000000 := by
    rw [← hS]
    exact (place_name_size p own h2 h3)
  rw [putT, hnm] at hL
  clear hq hS HN hnm
  by_cases h4 : (findD (takeD (bodyT t ((q : Int) + 1))).1 S).2 = true
  case pos =>
    rw [if_pos h4] at hL
    have H1 : Hid _ := h1
    have hk3 : (kindT t ((k : Int) + 1) == 2) = false := beq_false_of_ne h1
    have H2 : Hid _ := h2
    clear h1 h2
    have hgo : UpE (3) = (if G.2 = 0 then Ending.returned (.tuple #[]) else UpE G.2) := by rw [hL]; exact (if_neg (show ¬ (3 : Int) = 0 by decide)).symm
    have H3 : Hid _ := h3
    clear h3
    have H4 : Hid _ := h4
    clear h4
    have HL : Hid _ := hL
    have HG : Hid _ := hgo
    have HA : Hid _ := hA
    have HB : Hid _ := hB
    clear hB
    clear hL hgo hA
    go_enter Tryz.func45, Tryz.ntmps45
    go_wp2_with fail
    refine hways.mono ?_
    clear hways
    rintro _ wa ⟨ea, ba⟩
    rw [if_pos (by rw [HA.out, HB.out]; rfl)] at ea
    subst ea
    have ha := h.move (bw0.trans ba)
    obtain ⟨a1, _, _⟩ := box1 (but_box hp1 (bw0.trans ba))
    obtain ⟨a2, _, _⟩ := box1 (but_box hp2 (bw0.trans ba))
    go_wp2_with fail
    refine (wfind_ok ha hf f hsf h0).mono ?_
    rintro _ wb ⟨rfl, bb⟩
    rw [hk]
    have hb := ha.move bb
    obtain ⟨c1, _, _⟩ := box1 (but_box (but_box hp1 (bw0.trans ba)) bb)
    obtain ⟨c2, _, _⟩ := box1 (but_box (but_box hp2 (bw0.trans ba)) bb)
    obtain ⟨ab, ao, rfl, n0, nb, n1, n2, n3, n4, n5, n6⟩ := hb.node hk9
    go_wp2_with fail
    refine (node_calls hb hk9).mono ?_
    rintro _ wb2 ⟨rfl, rfl⟩
    rw [show (nodeT t ((k : Int) + 1)).1 = kindT t ((k : Int) + 1) from rfl] at n1
    go_wp2_with fail
    refine (no_no _ _).mono ?_
    rintro _ wc ⟨rfl, rfl⟩
    go_wp2_with fail
    refine (place_some hb hf p hsp H2.out).mono ?_
    rintro _ wd ⟨ed, bd⟩
    rw [if_pos H3.out] at ed
    subst ed
    rw [HF.out, HS.out]
    have hd := hb.move bd
    go_wp2_with fail
    refine (taken_calls (hd.move (but_alloc _ _ _)) hf hq9 S).mono ?_
    rintro _ we ⟨rfl, be⟩
    rw [H4.out]
    go_wp2_with fail
    refine (no_yes _ _).mono ?_
    rintro _ wg ⟨rfl, rfl⟩
    exact ⟨rfl, HG.out, fun h => (by rw [HL.out] at h; cases h), but_any (((((bw0.trans ba).trans bb).trans bd).trans (but_alloc _ _ _)).trans be)⟩
  rw [if_neg h4] at hL
  by_cases h5 : (putD (withD (takeD (bodyT t ((q : Int) + 1))).1 (S, (k : Int) + 1, ())).1).2 = true
  case neg =>
    rw [if_pos (by rw [if_pos (Bool.eq_false_iff.2 h5)])] at hL
    have H1 : Hid _ := h1
    have hk3 : (kindT t ((k : Int) + 1) == 2) = false := beq_false_of_ne h1
    have H2 : Hid _ := h2
    clear h1 h2
    have hgo : UpE (8) = (if G.2 = 0 then Ending.returned (.tuple #[]) else UpE G.2) := by rw [hL]; exact (if_neg (show ¬ (8 : Int) = 0 by decide)).symm
    have H3 : Hid _ := h3
    clear h3
    have H4 : Hid _ := Bool.eq_false_iff.2 h4
    clear h4
    have H5 : Hid _ := Bool.eq_false_iff.2 h5
    clear h5
    have HL : Hid _ := hL
    have HG : Hid _ := hgo
    have HA : Hid _ := hA
    have HB : Hid _ := hB
    clear hB
    clear hL hgo hA
    go_enter Tryz.func45, Tryz.ntmps45
    go_wp2_with fail
    refine hways.mono ?_
    clear hways
    rintro _ wa ⟨ea, ba⟩
    rw [if_pos (by rw [HA.out, HB.out]; rfl)] at ea
    subst ea
    have ha := h.move (bw0.trans ba)
    obtain ⟨a1, _, _⟩ := box1 (but_box hp1 (bw0.trans ba))
    obtain ⟨a2, _, _⟩ := box1 (but_box hp2 (bw0.trans ba))
    go_wp2_with fail
    refine (wfind_ok ha hf f hsf h0).mono ?_
    rintro _ wb ⟨rfl, bb⟩
    rw [hk]
    have hb := ha.move bb
    obtain ⟨c1, _, _⟩ := box1 (but_box (but_box hp1 (bw0.trans ba)) bb)
    obtain ⟨c2, _, _⟩ := box1 (but_box (but_box hp2 (bw0.trans ba)) bb)
    obtain ⟨ab, ao, rfl, n0, nb, n1, n2, n3, n4, n5, n6⟩ := hb.node hk9
    go_wp2_with fail
    refine (node_calls hb hk9).mono ?_
    rintro _ wb2 ⟨rfl, rfl⟩
    rw [show (nodeT t ((k : Int) + 1)).1 = kindT t ((k : Int) + 1) from rfl] at n1
    go_wp2_with fail
    refine (no_no _ _).mono ?_
    rintro _ wc ⟨rfl, rfl⟩
    go_wp2_with fail
    refine (place_some hb hf p hsp H2.out).mono ?_
    rintro _ wd ⟨ed, bd⟩
    rw [if_pos H3.out] at ed
    subst ed
    rw [HF.out, HS.out]
    have hd := hb.move bd
    go_wp2_with fail
    refine (taken_calls (hd.move (but_alloc _ _ _)) hf hq9 S).mono ?_
    rintro _ we ⟨rfl, be⟩
    rw [H4.out]
    obtain ⟨s0, s1, s2⟩ := box2 (but_box ((MapKept.heap_alloc wd (.cells #[.int .i64 ((q : Int) + 1), .string S] 65)).1) be)
    have he := hd.move ((but_alloc wd (.cells #[.int .i64 ((q : Int) + 1), .string S] 65) none).trans be)
    go_wp2_with fail
    refine (no_no _ _).mono ?_
    rintro _ wg ⟨rfl, rfl⟩
    go_wp2_with fail
    refine (wput_no he hf hq9 S ((k : Int) + 1) hSz H5.out).mono ?_
    rintro _ wh ⟨rfl, bh⟩
    exact ⟨rfl, HG.out, fun h => (by rw [HL.out] at h; cases h), but_any ((((((bw0.trans ba).trans bb).trans bd).trans (but_alloc _ _ _)).trans be).trans bh)⟩
  rw [if_neg (by rw [if_neg (by rw [h5]; simp)]; simp), if_neg (by rw [h5]; simp)] at hL
  have hgo : (Ending.returned (.tuple #[])) = (if G.2 = 0 then Ending.returned (.tuple #[]) else UpE G.2) := by rw [hL]; exact (if_pos rfl).symm
  have H1 : Hid _ := h1
  have hk3 : (kindT t ((k : Int) + 1) == 2) = false := beq_false_of_ne h1
  have H2 : Hid _ := h2
  clear h1 h2
  have H3 : Hid _ := h3
  clear h3
  have H4 : Hid _ := Bool.eq_false_iff.2 h4
  clear h4
  have H5 : Hid _ := h5
  clear h5
  have HL : Hid _ := hL
  have HG : Hid _ := hgo
  have HA : Hid _ := hA
  have HB : Hid _ := hB
  clear hB
  clear hL hgo hA
  go_enter Tryz.func45, Tryz.ntmps45
  go_wp2_with fail
  refine hways.mono ?_
  clear hways
  rintro _ wa ⟨ea, ba⟩
  rw [if_pos (by rw [HA.out, HB.out]; rfl)] at ea
  subst ea
  have ha := h.move (bw0.trans ba)
  obtain ⟨a1, _, _⟩ := box1 (but_box hp1 (bw0.trans ba))
  obtain ⟨a2, _, _⟩ := box1 (but_box hp2 (bw0.trans ba))
  go_wp2_with fail
  refine (wfind_ok ha hf f hsf h0).mono ?_
  rintro _ wb ⟨rfl, bb⟩
  rw [hk]
  have hb := ha.move bb
  obtain ⟨c1, _, _⟩ := box1 (but_box (but_box hp1 (bw0.trans ba)) bb)
  obtain ⟨c2, _, _⟩ := box1 (but_box (but_box hp2 (bw0.trans ba)) bb)
  obtain ⟨ab, ao, rfl, n0, nb, n1, n2, n3, n4, n5, n6⟩ := hb.node hk9
  go_wp2_with fail
  refine (node_calls hb hk9).mono ?_
  rintro _ wb2 ⟨rfl, rfl⟩
  rw [show (nodeT t ((k : Int) + 1)).1 = kindT t ((k : Int) + 1) from rfl] at n1
  go_wp2_with fail
  refine (no_no _ _).mono ?_
  rintro _ wc ⟨rfl, rfl⟩
  go_wp2_with fail
  refine (place_some hb hf p hsp H2.out).mono ?_
  rintro _ wd ⟨ed, bd⟩
  rw [if_pos H3.out] at ed
  subst ed
  rw [HF.out, HS.out]
  have hd := hb.move bd
  go_wp2_with fail
  refine (taken_calls (hd.move (but_alloc _ _ _)) hf hq9 S).mono ?_
  rintro _ we ⟨rfl, be⟩
  rw [H4.out]
  obtain ⟨s0, s1, s2⟩ := box2 (but_box ((MapKept.heap_alloc wd (.cells #[.int .i64 ((q : Int) + 1), .string S] 65)).1) be)
  have he := hd.move ((but_alloc wd (.cells #[.int .i64 ((q : Int) + 1), .string S] 65) none).trans be)
  go_wp2_with fail
  refine (no_no _ _).mono ?_
  rintro _ wg ⟨rfl, rfl⟩
  go_wp2_with fail
  refine (wput_ok he hf hq9 S ((k : Int) + 1) hSz H5.out).mono ?_
  rintro _ wh ⟨rfl, hh, bh⟩
  have h00 : G.2 = 0 := by rw [HL.out]
  go_wp2_with fail
  all_goals try go_end0
  all_goals first | exact ⟨rfl, (by rw [HL.out]; exact hh), (but_any (((((bw0.trans ba).trans bb).trans bd).trans (but_alloc _ _ _)).trans be)).trans bh⟩ | (rename_i hx; exact absurd h00 hx) | trace_state
end Go.Proofs.YtodkmhamaahjmaaGreatDoor
