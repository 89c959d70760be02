/- Texts joined: EditQ, EditJ. -/
import Derived.Test.YtodkmhamaahjmaaGreatDoorG12
import Derived.Test.YtodkmhamaahjmaaGreatDoorEditM
import Derived.Test.YtodkmhamaahjmaaGreatDoorEditR
import Derived.Deep.RegionHeld3
/- edit: Move: on the machine. -/
set_option maxRecDepth 100000
set_option maxHeartbeats 4000000
set_option linter.unusedSimpArgs false
set_option linter.unusedVariables false
set_option pp.deepTerms.threshold 20
namespace Go.Proofs.YtodkmhamaahjmaaGreatDoor
open Go.Tm Go.IntWalk Go.RowKit
theorem size_drew (w : World) : w.drew.heap.size = w.heap.size := rfl
theorem but_cell {w w' : World} (h : But w none w') : ∀ a : Addr, a.block < w.heap.size → w'.cell? a = w.cell? a := fun a ha => by
  have := h.block a.block ha (fun _ h => by cases h)
  simp only [World.cell?, this]
theorem but_frozen {w w' : World} (h : But w none w') : ∀ a : Addr, a.block < w.heap.size → w'.frozen? a = w.frozen? a := fun a ha => by
  have := h.block a.block ha (fun _ h => by cases h)
  simp only [World.frozen?, this]
/-- Two places, in boxes of their own. -/
def SpotR (wc wx : World) (u q : Nat) (nu S : ByteArray) (v5 v6 : Value) : Prop :=
  ∃ s5 s6, v5 = .pointer (some ⟨s5, 0, none⟩) ∧ v6 = .pointer (some ⟨s6, 0, none⟩) ∧ But wc none wx ∧ wc.heap.size ≤ s5 ∧ s5 < wx.heap.size ∧ s6 < wx.heap.size ∧
    wx.cell? ⟨s5, 0, none⟩ = some (.int .i64 ((q : Int) + 1)) ∧ wx.cell? ⟨s5, 1, none⟩ = some (.string S) ∧ wx.cell? ⟨s6, 0, none⟩ = some (.int .i64 ((u : Int) + 1)) ∧ wx.cell? ⟨s6, 1, none⟩ = some (.string nu)
/-- What is moved, once its places are known. -/
def MoveP (t : List Node) (u q k : Nat) (nu S : ByteArray) (G : List Node × Int) : Prop :=
  G = if (putT (dropT t ((u : Int) + 1) nu) ((q : Int) + 1) (S, (k : Int) + 1, ())).2 = false then (t, 8) else ((putT (dropT t ((u : Int) + 1) nu) ((q : Int) + 1) (S, (k : Int) + 1, ())).1, 0)
theorem drop_kind {t : List Node} {d j : Int} {nm : ByteArray} (hd : 1 ≤ d) (hl : d ≤ t.length) (hj : 1 ≤ j) : kindT (dropT t d nm) j = kindT t j := by
  unfold kindT dropT
  rw [nodeT_set hd hl hj]
  split
  · rename_i e; rw [e]; rfl
  · rfl
theorem moveP_put {t : List Node} {u q k : Nat} {nu S : ByteArray} {G : List Node × Int} (h9 : t.length = 9) (hu : u < 9) (hq : q < 9) (hk : kindT t ((q : Int) + 1) = 2) (h : MoveP t u q k nu S G) :
    G = if (putD (withD (takeD (bodyT (dropT t ((u : Int) + 1) nu) ((q : Int) + 1))).1 (S, (k : Int) + 1, ())).1).2 = false then (t, 8) else
      (setT (dropT t ((u : Int) + 1) nu) ((q : Int) + 1) (withBody (nodeT (dropT t ((u : Int) + 1) nu) ((q : Int) + 1)) (putD (withD (takeD (bodyT (dropT t ((u : Int) + 1) nu) ((q : Int) + 1))).1 (S, (k : Int) + 1, ())).1).1), 0) := by
  rw [h]
  have hk1 : kindT (dropT t ((u : Int) + 1) nu) ((q : Int) + 1) = 2 := (drop_kind (by omega) (by omega) (by omega)).trans hk
  unfold putT
  rw [names_in (by omega) (by rw [dropT_len]; omega) hk1]
  by_cases e : (putD (withD (takeD (bodyT (dropT t ((u : Int) + 1) nu) ((q : Int) + 1))).1 (S, (k : Int) + 1, ())).1).2 = false
  · rw [if_pos e, if_pos e, if_pos rfl]
  · rw [if_neg e, if_neg e, if_neg (by simp)]
theorem move1_calls {w0 w : World} {b : Nat} {ad : Addr} {c : Nat} {t : List Node} {own : Bool} (h : WK w0 w b ad c t own) (hf : fitT t) (hdp : allDeep t) (f p : ByteArray) (hsf : f.size ≤ 1000000000) (hsp : p.size ≤ 1000000000) {p1 p2 : Nat}
    (h1 : w.heap[p1]? = some (.cells #[.string f] 9)) (h2 : w.heap[p2]? = some (.cells #[.string p] 9)) :
    Calls Tryz.prog 47 #[.pointer (some ⟨b, 0, none⟩), .pointer (some ⟨p1, 0, none⟩), .pointer (some ⟨p2, 0, none⟩)] w fun en w' => en = (if (moveT t f p own).2 = 0 then .returned (.tuple #[]) else UpE (moveT t f p own).2) ∧ ((moveT t f p own).2 = 0 → WK w0 w' b ad c (moveT t f p own).1 own) ∧ But w (some ad) w' := by
  refine calls_post fun Q HQ0 => ?_
  have mixed : Tryz.prog.follows .mixedOrders = true := by kernel_rfl
  have h9 := h.2.2.1
  obtain ⟨ab, ao, rfl, hab0, _⟩ := h.node (k := 0) (by decide)
  obtain ⟨x0, x1, x2⟩ := h.cells
  obtain ⟨z1, _, _⟩ := box1 h1
  obtain ⟨z2, _, _⟩ := box1 h2
  have bw0 : But w none (w.alloc (.cells #[.string f, .string p] 9)) := but_alloc _ _ _
  have eb0 : (w.alloc (.cells #[.string f, .string p] 9)).heap[w.heap.size]? = some (.cells #[.string f, .string p] 9) := (MapKept.heap_alloc w _).1
  have hsz : ∀ s ∈ [f, p], s.size ≤ 1000000000 := fun s hs => by
    rcases List.mem_cons.1 hs with rfl | hs
    · exact hsf
    · rw [List.mem_singleton.1 hs]; exact hsp
  have hways := ways_calls (h.move bw0) [f, p] (show 2 ≤ 1000 by decide) hsz (cap := 2) (two_cells eb0) (Array.getElem?_eq_some_iff.1 eb0).1
  rw [allP_two] at hways
  have hL := moveT.eq_1 t f p own
  obtain ⟨G, hG⟩ : ∃ G, moveT t f p own = G := ⟨_, rfl⟩
  rw [hG] at hL HQ0
  have HQ := hid HQ0
  have HL := hid hL
  have H1 := hid h1
  have H2 := hid h2
  have HDP := hid hdp
  clear hG HQ0 hL h1 h2 hsz hdp
  go_enter Tryz.func47, Tryz.ntmps47
  go_wp2_with fail
  refine hways.mono ?_
  clear hways
  rintro _ wa ⟨ea, ba⟩
  by_cases hA : ((partsS f own).2 && (partsS p own).2) = true
  case neg =>
    rw [if_neg hA] at ea
    subst ea
    have hA' : (partsS f own).2 = false ∨ (partsS p own).2 = false := by
      cases e1 : (partsS f own).2 <;> cases e2 : (partsS p own).2 <;> simp_all
    have hL := HL.out
    rw [if_pos hA'] at hL
    exact ⟨rfl, HQ.out _ _ ⟨up_ans hL (by decide), up_not hL (by decide), but_any (bw0.trans ba)⟩⟩
  rw [if_pos hA] at ea
  subst ea
  obtain ⟨hA1, hA2⟩ := Bool.and_eq_true_iff.1 hA
  have ha := h.move (bw0.trans ba)
  have b1 := bw0.trans ba
  have HB := hid b1
  obtain ⟨a1, _, _⟩ := box1 (but_box H1.out b1)
  obtain ⟨a2, _, _⟩ := box1 (but_box H2.out b1)
  have HA1 := hid hA1
  have HA2 := hid hA2
  clear z1 z2 x0 x1 x2 ba bw0 eb0 b1 h hA hA1 hA2
  go_wp2_with fail
  by_cases h0 : (findT t f own).2 = 0
  case neg =>
    refine (wfind_no ha hf f hsf h0).mono ?_
    rintro _ wb ⟨rfl, bb⟩
    have hL := HL.out
    rw [if_neg (by rw [HA1.out, HA2.out]; simp), if_pos h0] at hL
    exact ⟨rfl, HQ.out _ _ ⟨up_ans hL h0, up_not hL h0, but_any (HB.out.trans bb)⟩⟩
  refine (wfind_ok ha hf f hsf h0).mono ?_
  rintro _ wb ⟨rfl, bb⟩
  have hL := HL.out
  rw [if_neg (by rw [HA1.out, HA2.out]; simp), if_neg (by rw [h0]; simp)] at hL
  have hrg := findT_range h0
  by_cases hr1 : (findT t f own).1 = 1
  case pos =>
    rw [if_pos hr1] at hL
    have HL2 := hid hL
    rw [hr1]
    clear hL hrg hr1 h0
    go_wp2_with fail
    refine (no_yes _ _).mono ?_
    rintro _ wc ⟨rfl, rfl⟩
    exact ⟨rfl, HQ.out _ _ ⟨up_ans HL2.out (by decide), up_not HL2.out (by decide), but_any (HB.out.trans bb)⟩⟩
  rw [if_neg hr1] at hL
  have hpa := find_root h0 hr1
  have hwp := (find_parts h0).2
  obtain ⟨q1, q2, _⟩ := walk_snoc (by rw [← hwp]; exact h0) hpa
  obtain ⟨pr1, pr2, pr3, pr4⟩ := placeT_ok q1
  have hnf := names_folder pr1 pr2 pr3
  obtain ⟨k, hk⟩ : ∃ k : Nat, (findT t f own).1 = (k : Int) + 1 := ⟨((findT t f own).1 - 1).toNat, by omega⟩
  have hk9 : k < 9 := by omega
  obtain ⟨u, hu⟩ : ∃ u : Nat, (placeT t (partsS f own).1).1 = (u : Int) + 1 := ⟨((placeT t (partsS f own).1).1 - 1).toNat, by omega⟩
  have hu9 : u < 9 := by omega
  obtain ⟨nu, hnu⟩ : ∃ nu, (placeT t (partsS f own).1).2.1 = nu := ⟨_, rfl⟩
  rw [hk, hu, hnu] at hL
  rw [hk] at hr1 ⊢
  rw [hu] at hnf
  have HPL := hid (show placeT t (partsS f own).1 = ((u : Int) + 1, nu, 0) by rw [← hu, ← hnu, ← q1])
  have HPA := hid (show ¬ (partsS f own).1.length = 0 from fun e => hpa (List.eq_nil_of_length_eq_zero e))
  have HNU := hid hnf
  have HL2 := hid hL
  have hr2 : ((k : Int) + 1 == 1) = false := beq_false_of_ne hr1
  have hb := ha.move bb
  have HB2 := hid (HB.out.trans bb)
  clear hL hrg hr1 h0 hpa hwp q1 q2 pr1 pr2 pr3 pr4 hnf hk hu hnu HL HB ha bb a1 a2
  go_upto_region 2 with fail
  go_cut [] from 7 to 52 (fun wx => wx = wb)
  case first =>
    go_wp2_with fail
    refine (no_no _ _).mono ?_
    rintro _ wc ⟨rfl, rfl⟩
    go_wp2_with fail
    go_meet
    case rel => exact rfl
  case' rest =>
    subst hcut
  clear hr2
  go_upto_region 3 with fail
  obtain ⟨a1, _, _⟩ := box1 (but_box H1.out HB2.out)
  obtain ⟨a2, _, _⟩ := box1 (but_box H2.out HB2.out)
  by_cases hup : (partsS p own).1.length = 0 ∨ (placeT t (partsS p own).1).2.2 ≠ 0
  case pos =>
    obtain ⟨E, hE0, hGE, hpn⟩ : ∃ E, ¬ E = 0 ∧ G = (t, E) ∧ ∀ w', But wc none w' → Calls Tryz.prog 34 #[.pointer (some ⟨b, 0, none⟩), .string p] w' fun en w2 => en = UpE E ∧ But w' none w2 := by
      have hL := HL2.out
      by_cases h2 : (partsS p own).1.length = 0
      · rw [if_pos h2] at hL
        exact ⟨3, by decide, hL, fun w' hw' => place_none (hb.move hw') hf p hsp h2⟩
      · have h3 := hup.resolve_left h2
        rw [if_neg h2, if_pos h3] at hL
        refine ⟨_, h3, hL, fun w' hw' => (place_some (hb.move hw') hf p hsp h2).mono fun en w2 ⟨e, hb2⟩ => ⟨by rw [e, if_neg h3], hb2⟩⟩
    have hpc1 : ∀ w', But wc none w' → Calls Tryz.prog 34 #[.pointer (some ⟨b, 0, none⟩), .string f] w' fun en w2 => en = .returned (.agg #[.int .i64 ((u : Int) + 1), .string nu]) ∧ But w' none w2 := fun w' hw' => (place_some (hb.move hw') hf f hsf HPA.out).mono fun en w2 ⟨e, hb2⟩ => ⟨by rw [e, HPL.out, if_pos rfl], hb2⟩
    have HC1 := hid hpc1
    have HC2 := hid hpn
    have HX1 := hid (but_box H1.out HB2.out)
    have HX2 := hid (but_box H2.out HB2.out)
    have HE := hid (fun w' (hw' : But wc none w') => HQ.out (UpE E) w' ⟨up_ans hGE hE0, up_not hGE hE0, but_any (HB2.out.trans hw')⟩)
    clear hpc1 hpn hE0 hGE hup HQ HL2 HA1 HA2 HPL HPA HNU HDP H1 H2 hsf hsp hb hab0
    refine wp_region_any (by kernel_rfl) ?_
    refine wpAny_inv (fun l a w' => ∃ x5 x6 x18 x19 x20 x21 x22 x23, a = { tmps := #[.pointer (some ⟨b, 0, none⟩), .pointer (some ⟨p1, 0, none⟩), .pointer (some ⟨p2, 0, none⟩), undef, .int .i64 ((k : Int) + 1), x5, x6, u7, u8, u9, u10, u11, u12, u13, u14, u15, u16, u17, x18, x19, x20, x21, x22, x23, u24, u25, u26, u27, u28, u29, u30, u31, u32, u33, u34, u35, u36, u37, u38, u39, u40, u41, u42, u43, u44, u45, u46, u47, u48, u49, u50, u51, u52], defers := [] } ∧ RegI wc b p f 0 u no nu l x5 x6 x18 x19 x20 x21 x22 x23 w' ∧ l.getD 2 false = false) ?_ ?_ _ _ _ _ ⟨_, _, _, _, _, _, _, _, rfl, ⟨rfl, but_drew _ _, fun h => (by cases h), fun h => (by cases h), fun h => (by cases h), fun h => (by cases h), fun h => (by cases h), fun h => (by cases h), fun h => (by cases h), fun h => (by cases h), fun h => (by cases h), fun h => (by cases h), fun h => (by cases h)⟩, rfl⟩ (by decide)
    · rintro l a w' ⟨x5, x6, x18, x19, x20, x21, x22, x23, rfl, hR, hl2⟩ hr
      exfalso
      have l0 : l.getD 0 false = true := ready_nil hr rfl (by rw [hR.size]; decide) (by simp)
      have l1 : l.getD 1 false = true := ready_nil hr rfl (by rw [hR.size]; decide) (by simp)
      have l2 : l.getD 2 false = true := by
        refine ready_nil hr rfl (by rw [hR.size]; decide) ?_
        intro e he _
        simp at he
        (repeat' (rcases he with he | he)); all_goals (first | assumption | (subst he; assumption))
      rw [l2] at hl2; cases hl2
    · rintro l a w' i ⟨x5, x6, x18, x19, x20, x21, x22, x23, rfl, hR, hl2⟩ hi
      obtain ⟨hlt, hli, o, ho, hd⟩ := ready_out hi
      have hlt : i < 10 := hlt
      have HR := hid hR
      have HN2 : ∀ {i : Nat}, i < 10 → i ≠ 2 → Hid ((l.setIfInBounds i true).getD 2 false = false) := fun h1 h2 => by
        show (l.setIfInBounds _ true).getD 2 false = false
        rw [list_set hR.size h1, if_neg h2]; exact hl2
      have G0 := HN2 (i := 0) (by decide) (by decide)
      have G1 := HN2 (i := 1) (by decide) (by decide)
      have G3 := HN2 (i := 3) (by decide) (by decide)
      have G4 := HN2 (i := 4) (by decide) (by decide)
      have G6 := HN2 (i := 6) (by decide) (by decide)
      have G7 := HN2 (i := 7) (by decide) (by decide)
      clear HN2
      obtain rfl | rfl | rfl | rfl | rfl | rfl | rfl | rfl | rfl | rfl : i = 0 ∨ i = 1 ∨ i = 2 ∨ i = 3 ∨ i = 4 ∨ i = 5 ∨ i = 6 ∨ i = 7 ∨ i = 8 ∨ i = 9 := by omega
      · refine wpOp_step rfl (fun K' hK => ?_)
        clear hR hl2
        go_simp
        exact hK _ _ ⟨_, _, _, _, _, _, _, _, rfl, regI_0 HR.out, G0.out⟩
      · obtain ⟨g2, _, _⟩ := box1 (but_box HX2.out hR.but)
        refine wpOp_step rfl (fun K' hK => ?_)
        clear hR hl2
        go_simp
        exact hK _ _ ⟨_, _, _, _, _, _, _, _, rfl, regI_1 HR.out, G1.out⟩
      · simp at ho
        subst ho
        have d0 : l.getD 0 false = true := hd ⟨0, .data⟩ (by simp) (by rfl)
        have d1 : l.getD 1 false = true := hd ⟨1, .data⟩ (by simp) (by rfl)
        obtain rfl := hR.h0 d0
        obtain rfl := hR.h1 d1
        refine wpOp_step rfl (fun K' hK => ?_)
        clear hR hd d0 d1 hl2
        go_simp
        refine (HC2.out _ HR.out.but).mono ?_
        rintro _ w2 ⟨rfl, b2⟩
        exact ⟨rfl, HE.out _ (HR.out.but.trans b2)⟩
      · refine wpOp_step rfl (fun K' hK => ?_)
        clear hR hl2
        go_simp
        exact hK _ _ ⟨_, _, _, _, _, _, _, _, rfl, regI_3 HR.out, G3.out⟩
      · obtain ⟨g1, _, _⟩ := box1 (but_box HX1.out hR.but)
        refine wpOp_step rfl (fun K' hK => ?_)
        clear hR hl2
        go_simp
        exact hK _ _ ⟨_, _, _, _, _, _, _, _, rfl, regI_4 HR.out, G4.out⟩
      · exfalso
        simp at ho
        subst ho
        have d2 : l.getD 2 false = true := hd ⟨2, .chain⟩ (by simp) (by rfl)
        rw [d2] at hl2; cases hl2
      · refine wpOp_step rfl (fun K' hK => ?_)
        clear hR hl2
        go_simp
        exact hK _ _ ⟨_, _, _, _, _, _, _, _, rfl, regI_6 HR.out (unlisted hli), G6.out⟩
      · refine wpOp_step rfl (fun K' hK => ?_)
        clear hR hl2
        go_simp
        exact hK _ _ ⟨_, _, _, _, _, _, _, _, rfl, regI_7 HR.out (unlisted hli), G7.out⟩
      · exfalso
        simp at ho
        subst ho
        have d2 : l.getD 2 false = true := hd ⟨2, .data⟩ (by simp) (by rfl)
        rw [d2] at hl2; cases hl2
      · exfalso
        simp at ho
        subst ho
        have d2 : l.getD 2 false = true := hd ⟨2, .phase⟩ (by simp) (by rfl)
        rw [d2] at hl2; cases hl2
  have h2 : ¬ (partsS p own).1.length = 0 := fun h => hup (.inl h)
  have h3 : (placeT t (partsS p own).1).2.2 = 0 := Classical.byContradiction fun h => hup (.inr h)
  clear hup
  have hpc1 : ∀ w', But wc none w' → Calls Tryz.prog 34 #[.pointer (some ⟨b, 0, none⟩), .string f] w' fun en w2 => en = .returned (.agg #[.int .i64 ((u : Int) + 1), .string nu]) ∧ But w' none w2 := fun w' hw' => (place_some (hb.move hw') hf f hsf HPA.out).mono fun en w2 ⟨e, hb2⟩ => ⟨by rw [e, HPL.out, if_pos rfl], hb2⟩
  obtain ⟨pr1, pr2, pr3, pr4⟩ := placeT_ok h3
  have hnf := names_folder pr1 pr2 pr3
  have hSz := place_name_size p own h2 h3
  obtain ⟨q, hq⟩ : ∃ q : Nat, (placeT t (partsS p own).1).1 = (q : Int) + 1 := ⟨((placeT t (partsS p own).1).1 - 1).toNat, by omega⟩
  have hq9 : q < 9 := by omega
  obtain ⟨S, hS⟩ : ∃ S, (placeT t (partsS p own).1).2.1 = S := ⟨_, rfl⟩
  have hpl2 : placeT t (partsS p own).1 = ((q : Int) + 1, S, 0) := by rw [← hq, ← hS, ← h3]
  have hpc2 : ∀ w', But wc none w' → Calls Tryz.prog 34 #[.pointer (some ⟨b, 0, none⟩), .string p] w' fun en w2 => en = .returned (.agg #[.int .i64 ((q : Int) + 1), .string S]) ∧ But w' none w2 := fun w' hw' => (place_some (hb.move hw') hf p hsp h2).mono fun en w2 ⟨e, hb2⟩ => ⟨by rw [e, hpl2, if_pos rfl], hb2⟩
  have HC1 := hid hpc1
  have HC2 := hid hpc2
  have HX1 := hid (but_box H1.out HB2.out)
  have HX2 := hid (but_box H2.out HB2.out)
  have HNQ := hid hnf
  have HQ0 := hid hSz
  have HPL2 := hid hpl2
  have HKQ := hid (show kindT t ((q : Int) + 1) = 2 by rw [← hq]; exact pr3)
  have HLAB := hid hab0
  rw [hq] at HNQ
  rw [hS] at HQ0
  have HH2 := hid h2
  have HBW := hid hb
  clear hpc1 hpc2 hq hS hnf hSz pr1 pr2 pr3 pr4 h2 h3 hpl2 hab0 H1 H2 hsf hsp
  go_cut [5, 6] from 7 to 52 (fun v5 v6 wx => SpotR wc wx u q nu S v5 v6)
  case first =>
    clear HQ HL2 HA1 HA2 HPL HPA HNU HDP HNQ HQ0 HPL2 HKQ HLAB HH2 HBW hb
    refine wp_region_any (by kernel_rfl) ?_
    refine wpAny_inv (fun l a w' => ∃ x5 x6 x18 x19 x20 x21 x22 x23, a = { tmps := #[.pointer (some ⟨b, 0, none⟩), .pointer (some ⟨p1, 0, none⟩), .pointer (some ⟨p2, 0, none⟩), undef, .int .i64 ((k : Int) + 1), x5, x6, u7, u8, u9, u10, u11, u12, u13, u14, u15, u16, u17, x18, x19, x20, x21, x22, x23, u24, u25, u26, u27, u28, u29, u30, u31, u32, u33, u34, u35, u36, u37, u38, u39, u40, u41, u42, u43, u44, u45, u46, u47, u48, u49, u50, u51, u52], defers := [] } ∧ RegI wc b p f q u S nu l x5 x6 x18 x19 x20 x21 x22 x23 w') ?_ ?_ _ _ _ _ ⟨_, _, _, _, _, _, _, _, rfl, ⟨rfl, but_drew _ _, fun h => (by cases h), fun h => (by cases h), fun h => (by cases h), fun h => (by cases h), fun h => (by cases h), fun h => (by cases h), fun h => (by cases h), fun h => (by cases h), fun h => (by cases h), fun h => (by cases h), fun h => (by cases h)⟩⟩ (by decide)
    · rintro l a w' ⟨x5, x6, x18, x19, x20, x21, x22, x23, rfl, hR⟩ hr
      have l0 : l.getD 0 false = true := ready_nil hr rfl (by rw [hR.size]; decide) (by simp)
      have l1 : l.getD 1 false = true := ready_nil hr rfl (by rw [hR.size]; decide) (by simp)
      have l3 : l.getD 3 false = true := ready_nil hr rfl (by rw [hR.size]; decide) (by simp)
      have l4 : l.getD 4 false = true := ready_nil hr rfl (by rw [hR.size]; decide) (by simp)
      have l6 : l.getD 6 false = true := ready_nil hr rfl (by rw [hR.size]; decide) (by simp)
      have l7 : l.getD 7 false = true := ready_nil hr rfl (by rw [hR.size]; decide) (by simp)
      have l2 : l.getD 2 false = true := by
        refine ready_nil hr rfl (by rw [hR.size]; decide) ?_
        intro e he _
        simp at he
        (repeat' (rcases he with he | he)); all_goals (first | assumption | (subst he; assumption))
      have l5 : l.getD 5 false = true := by
        refine ready_nil hr rfl (by rw [hR.size]; decide) ?_
        intro e he _
        simp at he
        (repeat' (rcases he with he | he)); all_goals (first | assumption | (subst he; assumption))
      have l8 : l.getD 8 false = true := by
        refine ready_nil hr rfl (by rw [hR.size]; decide) ?_
        intro e he _
        simp at he
        (repeat' (rcases he with he | he)); all_goals (first | assumption | (subst he; assumption))
      have l9 : l.getD 9 false = true := by
        refine ready_nil hr rfl (by rw [hR.size]; decide) ?_
        intro e he _
        simp at he
        (repeat' (rcases he with he | he)); all_goals (first | assumption | (subst he; assumption))
      obtain ⟨s5, rfl, e5, e5'⟩ := hR.h6 l6
      obtain ⟨s6, rfl, e6, e6'⟩ := hR.h7 l7
      rw [if_pos l8] at e5'
      rw [if_pos l9] at e6'
      have HSR : Hid (SpotR wc w' u q nu S (.pointer (some ⟨s5, 0, none⟩)) (.pointer (some ⟨s6, 0, none⟩))) := hid ⟨s5, s6, rfl, rfl, hR.but, e5, (box2 e5').2.2, (box2 e6').2.2, (box2 e5').1, (box2 e5').2.1, (box2 e6').1, (box2 e6').2.1⟩
      clear e5 e5' e6 e6' hr l0 l1 l2 l3 l4 l5 l6 l7 l8 l9 hR
      go_wp2_with fail
      go_meet
      case rel => exact HSR.out
    · rintro l a w' i ⟨x5, x6, x18, x19, x20, x21, x22, x23, rfl, hR⟩ hi
      obtain ⟨hlt, hli, o, ho, hd⟩ := ready_out hi
      have hlt : i < 10 := hlt
      have HR := hid hR
      obtain rfl | rfl | rfl | rfl | rfl | rfl | rfl | rfl | rfl | rfl : i = 0 ∨ i = 1 ∨ i = 2 ∨ i = 3 ∨ i = 4 ∨ i = 5 ∨ i = 6 ∨ i = 7 ∨ i = 8 ∨ i = 9 := by omega
      · refine wpOp_step rfl (fun K' hK => ?_)
        clear hR
        go_simp
        exact hK _ _ ⟨_, _, _, _, _, _, _, _, rfl, regI_0 HR.out⟩
      · obtain ⟨g2, _, _⟩ := box1 (but_box HX2.out hR.but)
        refine wpOp_step rfl (fun K' hK => ?_)
        clear hR
        go_simp
        exact hK _ _ ⟨_, _, _, _, _, _, _, _, rfl, regI_1 HR.out⟩
      · simp at ho
        subst ho
        have d0 : l.getD 0 false = true := hd ⟨0, .data⟩ (by simp) (by rfl)
        have d1 : l.getD 1 false = true := hd ⟨1, .data⟩ (by simp) (by rfl)
        obtain rfl := hR.h0 d0
        obtain rfl := hR.h1 d1
        refine wpOp_step rfl (fun K' hK => ?_)
        clear hR hd d0 d1
        go_simp
        refine (HC2.out _ HR.out.but).mono ?_
        rintro _ w2 ⟨rfl, b2⟩
        go_simp
        exact hK _ _ ⟨_, _, _, _, _, _, _, _, rfl, regI_2 (HR.out.move b2)⟩
      · refine wpOp_step rfl (fun K' hK => ?_)
        clear hR
        go_simp
        exact hK _ _ ⟨_, _, _, _, _, _, _, _, rfl, regI_3 HR.out⟩
      · obtain ⟨g1, _, _⟩ := box1 (but_box HX1.out hR.but)
        refine wpOp_step rfl (fun K' hK => ?_)
        clear hR
        go_simp
        exact hK _ _ ⟨_, _, _, _, _, _, _, _, rfl, regI_4 HR.out⟩
      · simp at ho
        subst ho
        have d3 : l.getD 3 false = true := hd ⟨3, .data⟩ (by simp) (by rfl)
        have d4 : l.getD 4 false = true := hd ⟨4, .data⟩ (by simp) (by rfl)
        obtain rfl := hR.h3 d3
        obtain rfl := hR.h4 d4
        refine wpOp_step rfl (fun K' hK => ?_)
        clear hR hd d3 d4
        go_simp
        refine (HC1.out _ HR.out.but).mono ?_
        rintro _ w2 ⟨rfl, b2⟩
        go_simp
        exact hK _ _ ⟨_, _, _, _, _, _, _, _, rfl, regI_5 (HR.out.move b2)⟩
      · refine wpOp_step rfl (fun K' hK => ?_)
        clear hR
        go_simp
        exact hK _ _ ⟨_, _, _, _, _, _, _, _, rfl, regI_6 HR.out (unlisted hli)⟩
      · refine wpOp_step rfl (fun K' hK => ?_)
        clear hR
        go_simp
        exact hK _ _ ⟨_, _, _, _, _, _, _, _, rfl, regI_7 HR.out (unlisted hli)⟩
      · simp at ho
        subst ho
        have d2 : l.getD 2 false = true := hd ⟨2, .data⟩ (by simp) (by rfl)
        have d6 : l.getD 6 false = true := hd ⟨6, .data⟩ (by simp) (by rfl)
        obtain rfl := hR.h2 d2
        obtain ⟨s, rfl, e2, e3⟩ := hR.h6 d6
        rw [if_neg (by rw [unlisted hli]; simp)] at e3
        obtain ⟨c0, c1, _⟩ := box2 e3
        obtain ⟨f0, f1⟩ := box2f e3
        refine wpOp_step rfl (fun K' hK => ?_)
        clear hR hd d2 e3
        go_simp
        exact hK _ _ ⟨_, _, _, _, _, _, _, _, rfl, regI_8 HR.out rfl d6⟩
      · simp at ho
        subst ho
        have d5 : l.getD 5 false = true := hd ⟨5, .data⟩ (by simp) (by rfl)
        have d7 : l.getD 7 false = true := hd ⟨7, .data⟩ (by simp) (by rfl)
        obtain rfl := hR.h5 d5
        obtain ⟨s, rfl, e2, e3⟩ := hR.h7 d7
        rw [if_neg (by rw [unlisted hli]; simp)] at e3
        obtain ⟨c0, c1, _⟩ := box2 e3
        obtain ⟨f0, f1⟩ := box2f e3
        refine wpOp_step rfl (fun K' hK => ?_)
        clear hR hd d5 e3
        go_simp
        exact hK _ _ ⟨_, _, _, _, _, _, _, _, rfl, regI_9 HR.out rfl d7⟩
  case rest =>
    obtain ⟨s5, s6, rfl, rfl, hbx, hs5, l5, l6, c5, c5', c6, c6'⟩ := hcut
    have hL := HL2.out
    rw [if_neg HH2.out, HPL2.out, if_neg (by simp)] at hL
    simp only at hL
    have hx := hb.move hbx
    have HBX := hid (HB2.out.trans hbx)
    have hab5 : s5 ≠ ab := fun e => by
      have h1 := HLAB.out
      have h2 := HB2.out.size
      omega
    have HAB5 := hid hab5
    clear hab5 hs5
    clear hbx hb a1 a2
    by_cases hsame : (u : Int) + 1 = (q : Int) + 1 ∧ nu = S
    case pos =>
      rw [if_pos hsame] at hL
      have HL3 := hid hL
      have HX := hid hx
      obtain ⟨e1, e2⟩ := hsame
      have e3 : u = q := by omega
      subst e3 e2
      clear hL e1 hx
      go_wp2_with fail
      exact ⟨rfl, _, results_none rfl _ _ _, HQ.out _ _ ⟨by rw [HL3.out]; rfl, fun _ => by rw [HL3.out]; exact HX.out, but_any HBX.out⟩⟩
    case neg =>
      rw [if_neg hsame] at hL
      have HL3 := hid hL
      have HSM := hid hsame
      clear hL hsame
      go_upto_region 4 with fail
      go_cut [26] from 7 to 52 (fun v wx => v = Value.bool false ∧ wx = wc)
      case first =>
        have HU := hid (show ∀ (h1 : (q : Int) = u) (h2 : S.toList = nu.toList), False from fun h1 h2 => HSM.out ⟨by omega, by rw [toList_bl, toList_bl] at h2; exact (bl_inj h2).symm⟩)
        clear HC1 HC2 HL3 HSM HQ HL2
        go_wp2_with fail
        all_goals (go_meet; case rel => first | exact ⟨rfl, rfl⟩ | (exfalso; rename_i h1 h2; exact HU.out h1 h2) | (exfalso; rename_i h1 h2; exact HU.out h2 h1) | trace_state)
      case rest =>
        obtain ⟨rfl, hwc⟩ := hcut
        subst hwc
        have HX := hid hx
        go_wp2_with fail
        refine (taken_calls hx hf hq9 S).mono ?_
        rintro _ wd ⟨rfl, bd⟩
        have hL := HL3.out
        rw [HNQ.out] at hL
        by_cases h4 : (findD (takeD (bodyT t ((q : Int) + 1))).1 S).2 = true
        case pos =>
          rw [if_pos h4] at hL
          have HL4 := hid hL
          clear hL
          rw [h4]
          go_wp2_with fail
          refine (no_yes _ _).mono ?_
          rintro _ wg ⟨rfl, rfl⟩
          exact ⟨rfl, HQ.out _ _ ⟨up_ans HL4.out (by decide), up_not HL4.out (by decide), but_any (HBX.out.trans bd)⟩⟩
        rw [if_neg h4] at hL
        rw [Bool.eq_false_iff.2 h4]
        have HL4 := hid hL
        have hd := hx.move bd
        have HBD := hid (HBX.out.trans bd)
        have d5 := cell_keep c5 (bd.block s5 l5 (fun _ h => by cases h))
        have d5' := cell_keep c5' (bd.block s5 l5 (fun _ h => by cases h))
        have d6 := cell_keep c6 (bd.block s6 l6 (fun _ h => by cases h))
        have d6' := cell_keep c6' (bd.block s6 l6 (fun _ h => by cases h))
        have m5 : s5 < wd.heap.size := Nat.lt_of_lt_of_le l5 bd.size
        have m6 : s6 < wd.heap.size := Nat.lt_of_lt_of_le l6 bd.size
        clear hL h4 hx HX bd c5 c5' c6 c6' l5 l6 HL3 HSM HC1 HC2 HX1 HX2
        go_wp2_with fail
        refine (no_no _ _).mono ?_
        rintro _ wg ⟨rfl, rfl⟩
        obtain ⟨_, _, ee, n0, nb, n1, n2, n3, n4, n5, n6⟩ := hd.node hk9
        injection ee with g1 g2
        subst g1 g2
        have HD := hid hd
        have E5 := hid d5
        have E5' := hid d5'
        have E6 := hid d6
        have E6' := hid d6'
        go_upto_region 6 with fail
        go_cut [] from 7 to 52 (fun wx => MoveP t u q k nu S G ∧ But wg none wx)
        case first =>
          by_cases hk2 : (nodeT t ((k : Int) + 1)).1 = 2
          case pos =>
            rw [hk2] at n1
            have HK2 := hid hk2
            clear hk2
            go_wp2_with fail
            refine (node_calls hd hk9).mono ?_
            rintro _ we ⟨rfl, rfl⟩
            go_wp2_with fail
            refine (within_calls hf HKQ.out 10 hd hk9 (Int.le_refl 0) (by omega) (deep_ten h9 (HDP.out _))).mono ?_
            rintro _ wf ⟨rfl, bf⟩
            have hL := HL4.out
            by_cases hwi : withinB t ((q : Int) + 1) ((k : Int) + 1) = true
            case pos =>
              rw [if_pos ⟨HK2.out, hwi⟩] at hL
              have HL5 := hid hL
              clear hL
              rw [hwi]
              go_wp2_with fail
              refine (no_yes _ _).mono ?_
              rintro _ wh ⟨rfl, rfl⟩
              exact ⟨rfl, HQ.out _ _ ⟨up_ans HL5.out (by decide), up_not HL5.out (by decide), but_any (HBD.out.trans bf)⟩⟩
            case neg =>
              rw [if_neg (fun h => hwi h.2)] at hL
              have HL5 : Hid (MoveP t u q k nu S G) := hid hL
              rw [Bool.eq_false_iff.2 hwi]
              have HBF := hid bf
              clear hL hwi bf
              go_wp2_with fail
              refine (no_no _ _).mono ?_
              rintro _ wh ⟨rfl, rfl⟩
              go_wp2_with fail
              go_meet
              case rel => exact ⟨HL5.out, HBF.out⟩
          case neg =>
            have hL := HL4.out
            rw [if_neg (fun h => hk2 h.1)] at hL
            have HL5 : Hid (MoveP t u q k nu S G) := hid hL
            have hk3 : ((nodeT t ((k : Int) + 1)).1 == 2) = false := beq_false_of_ne hk2
            clear hL hk2
            go_wp2_with fail
            refine (node_calls hd hk9).mono ?_
            rintro _ we ⟨rfl, rfl⟩
            go_wp2_with fail
            refine (no_no _ _).mono ?_
            rintro _ wh ⟨rfl, rfl⟩
            go_wp2_with fail
            go_meet
            case rel => exact ⟨HL5.out, But.refl _ _⟩
        case rest =>
          obtain ⟨hmp, bx⟩ := hcut
          have hx := HD.out.move bx
          have HMP := hid hmp
          have HBX2 := hid (HBD.out.trans bx)
          have c5 := cell_keep E5.out (bx.block s5 m5 (fun _ h => by cases h))
          have c5' := cell_keep E5'.out (bx.block s5 m5 (fun _ h => by cases h))
          have c6 := cell_keep E6.out (bx.block s6 m6 (fun _ h => by cases h))
          have c6' := cell_keep E6'.out (bx.block s6 m6 (fun _ h => by cases h))
          have l5 : s5 < wc.heap.size := Nat.lt_of_lt_of_le m5 bx.size
          clear hmp bx n0 nb n1 n2 n3 n4 n5 n6 d5 d5' d6 d6' hd HD E5 E5' E6 E6' HL4
          go_wp2_with fail
          refine (wcut_ok hx hf hu9 nu).mono ?_
          rintro _ we ⟨rfl, he, be⟩
          have hdt : dropT t ((u : Int) + 1) nu = setT t ((u : Int) + 1) (withBody (nodeT t ((u : Int) + 1)) (putD (lessD (takeD (bodyT t ((u : Int) + 1))).1 nu).1).1) := by
            rw [dropT, HNU.out]
          rw [← hdt] at he
          have hput := moveP_put h9 hu9 hq9 HKQ.out HMP.out
          have hf1 : fitT (dropT t ((u : Int) + 1) nu) := dropT_fit hf _ _
          obtain ⟨t1, ht1⟩ : ∃ t1, dropT t ((u : Int) + 1) nu = t1 := ⟨_, rfl⟩
          rw [ht1] at he hput hf1
          have d5 := cell_keep c5 (be.block s5 l5 (fun a e => by injection e with e; subst e; exact fun e => HAB5.out e.symm))
          have d5' := cell_keep c5' (be.block s5 l5 (fun a e => by injection e with e; subst e; exact fun e => HAB5.out e.symm))
          have HBE := hid ((but_any (A := some ⟨ab, ao, none⟩) HBX2.out).trans be)
          have HE := hid he
          have HPUT := hid hput
          clear hdt hput be he hx c5 c5' c6 c6' ht1
          by_cases h5 : (putD (withD (takeD (bodyT t1 ((q : Int) + 1))).1 (S, (k : Int) + 1, ())).1).2 = true
          case neg =>
            have hL := HPUT.out
            rw [if_pos (by simpa using h5)] at hL
            have HL5 := hid hL
            have H5 := hid (Bool.eq_false_iff.2 h5)
            clear hL h5
            go_wp2_with fail
            refine (wput_no HE.out hf1 hq9 S ((k : Int) + 1) HQ0.out H5.out).mono ?_
            rintro _ wh ⟨rfl, bh⟩
            exact ⟨rfl, HQ.out _ _ ⟨up_ans HL5.out (by decide), up_not HL5.out (by decide), HBE.out.trans (but_any bh)⟩⟩
          case pos =>
            have hL := HPUT.out
            rw [if_neg (by rw [h5]; simp)] at hL
            have HL5 := hid hL
            have H5 := hid h5
            clear hL h5
            go_wp2_with fail
            refine (wput_ok HE.out hf1 hq9 S ((k : Int) + 1) HQ0.out H5.out).mono ?_
            rintro _ wh ⟨rfl, hh, bh⟩
            have HH := hid hh
            clear hh
            go_wp2_with fail
            go_end0
            exact HQ.out _ _ ⟨by rw [HL5.out]; rfl, fun _ => by rw [HL5.out]; exact HH.out, HBE.out.trans bh⟩
end Go.Proofs.YtodkmhamaahjmaaGreatDoor

/- edit: the contracts. -/
set_option maxRecDepth 100000
set_option maxHeartbeats 4000000
set_option linter.unusedSimpArgs false
set_option linter.unusedVariables false
set_option pp.deepTerms.threshold 20
namespace Go.Proofs.YtodkmhamaahjmaaGreatDoor
open Go.Tm Go.IntWalk Go.RowKit
theorem move_works {w1 : World} {t : List Node} {own : Bool} (hf : fitT t) (hdp : allDeep t) (f p : ByteArray) (hsf : f.size ≤ 1000000000) (hsp : p.size ≤ 1000000000) {p1 p2 : Nat} (hp1 : w1.heap[p1]? = some (.cells #[.string f] 9)) (hp2 : w1.heap[p2]? = some (.cells #[.string p] 9)) (C : Nat → Prop) :
    Works 47 #[.pointer (some ⟨p1, 0, none⟩), .pointer (some ⟨p2, 0, none⟩)] C w1 t own (moveT t f p own) := fun w b ad c hb hw =>
  (move1_calls hw hf hdp f p hsf hsp (but_box hp1 hb) (but_box hp2 hb)).mono fun en w' h => ⟨h.1, h.2.1, but_kept h.2.2⟩
theorem move_len (t : List Node) (f p : ByteArray) (own : Bool) : (moveT t f p own).1.length = t.length := by
  unfold moveT
  repeat' split
  all_goals first | rfl | (rw [putT_len]; exact dropT_len _ _ _)
theorem move_calls (t : List Node) (f p : ByteArray) (own : Bool) (hf : fitT t) (hdp : allDeep t) (h9 : t.length = 9) (hsf : f.size ≤ 1000000000) (hsp : p.size ≤ 1000000000) {w : World} {R : Nat → Prop} {v : Value} (hv : vrep w R TreeT t v) :
    Calls Tryz.prog 18 #[v, .string f, .string p, .bool own] w (ChgR w (moveT t f p own).1 (moveT t f p own).2) := by
  have hmf : ∀ (fn : Fn) (first cap : Array Value) (w : World), (Instr.makeFunc fn first cap).run Tryz.prog w = .ok (.func fn first cap) w := fun _ _ _ _ => rfl
  have b1 : But w none (w.alloc (.cells #[.string f] 9)) := but_alloc _ _ _
  have b2 : But w none ((w.alloc (.cells #[.string f] 9)).alloc (.cells #[.string p] 9)) := b1.trans (but_alloc _ _ _)
  have e1 : ((w.alloc (.cells #[.string f] 9)).alloc (.cells #[.string p] 9)).heap[w.heap.size]? = some (.cells #[.string f] 9) := but_box (MapKept.heap_alloc w _).1 (but_alloc _ _ none)
  have e2 : ((w.alloc (.cells #[.string f] 9)).alloc (.cells #[.string p] 9)).heap[w.heap.size + 1]? = some (.cells #[.string p] 9) := by
    have := (MapKept.heap_alloc (w.alloc (.cells #[.string f] 9)) (.cells #[.string p] 9)).1
    rwa [size_alloc] at this
  have hl : (moveT t f p own).1.length = 9 := by rw [move_len]; exact h9
  have hv1 := vrep_but (vrep_low hv) b2
  have hw := move_works (own := own) hf hdp f p hsf hsp e1 e2 (fun _ => False)
  have hen := enter_of Tryz.func47 (by kernel_rfl) (by kernel_rfl)
  have hE : ¬ (moveT t f p own).2 = 0 → (moveT t f p own).1 = t := moveT_err
  obtain ⟨G, hG⟩ : ∃ G, moveT t f p own = G := ⟨_, rfl⟩
  rw [hG] at hl hw hE ⊢
  have HW := hid hw
  have HE := hid hE
  clear hG hw hE hdp
  by_cases h0 : G.2 = 0
  · have H0 := hid h0
    clear h0
    go_enter Tryz.func18, Tryz.ntmps18
    go_wp2_with fail
    refine (try_ok hen (C := fun _ => False) (fun _ h => h.elim) h9 (fun _ h => h.elim) hv1 H0.out HW.out).mono ?_
    rintro _ w2 ⟨u, rfl, hfr, hk⟩
    go_wp2_with fail
    go_ret2
    exact chg_fresh hl b2 (b2.trans (kept_but hk (fun _ h => h))) hfr
  · have H0 := hid h0
    clear h0
    go_enter Tryz.func18, Tryz.ntmps18
    go_wp2_with fail
    refine (try_up hen (C := fun _ => False) (fun _ h => h.elim) h9 (fun _ h => h.elim) hv1 H0.out HW.out).mono ?_
    rintro _ w2 ⟨u, rfl, hfr, hk⟩
    rw [← HE.out H0.out] at hfr
    go_wp2_with fail
    go_ret2
    exact chg_fresh hl b2 (b2.trans (kept_but hk (fun _ h => h))) hfr
/-- The contract of edit.Make. -/
def emakeC : Con := conN [(.v, TreeT), (.v, .str), (.v, .int .i64), (.v, .int .i64), (.v, .int .i64), (.v, .bool)] fun (t, p, kind, mode, ino, own, _) => if fitT t ∧ t.length = 9 ∧ p.size ≤ 1000000000 then some ⟨.tup [⟨TreeT, (makeT t p kind mode ino own).1⟩, ⟨.int .i64, (makeT t p kind mode ino own).2⟩], []⟩ else none
theorem emakeC_eq {t : Ty.den (TreeT)} {p : ByteArray} {kind : Int} {mode : Int} {ino : Int} {own : Bool} : emakeC [.val ⟨TreeT, t⟩, .val ⟨.str, p⟩, .val ⟨.int .i64, kind⟩, .val ⟨.int .i64, mode⟩, .val ⟨.int .i64, ino⟩, .val ⟨.bool, own⟩] = if fitT t ∧ t.length = 9 ∧ p.size ≤ 1000000000 then some ⟨.tup [⟨TreeT, (makeT t p kind mode ino own).1⟩, ⟨.int .i64, (makeT t p kind mode ino own).2⟩], []⟩ else none := conN_mk (ks := [(.v, TreeT), (.v, .str), (.v, .int .i64), (.v, .int .i64), (.v, .int .i64), (.v, .bool)]) (t, p, kind, mode, ino, own, ())
def Γemake : Cons := cons []
theorem emake_ok : ConOK Tryz.prog 13 emakeC := by
  intro args out vals w R h hrd
  obtain ⟨x, e, h1⟩ := conN_inv h
  clear h
  obtain ⟨t, p, kind, mode, ino, own, x0⟩ := x
  subst e
  replace h1 : (if fitT t ∧ List.length t = 9 ∧ ByteArray.size p ≤ 1000000000 then some (⟨.tup [⟨TreeT, (makeT t p kind mode ino own).1⟩, ⟨.int .i64, (makeT t p kind mode ino own).2⟩], []⟩ : Out) else none) = some out := h1
  split at h1
  case isFalse => cases h1
  rename_i hr
  injection h1 with h1
  subst h1
  obtain ⟨hrep, hnd, hap⟩ := hrd
  obtain ⟨v0, r0, rfl, hv0, v1, r1, rfl, hv1, v2, r2, rfl, hv2, v3, r3, rfl, hv3, v4, r4, rfl, hv4, v5, r5, rfl, hv5, e9⟩ := hrep
  subst e9
  have hv1 := vrep_str hv1
  subst hv1
  have hv2 := vrep_int hv2
  subst hv2
  have hv3 := vrep_int hv3
  subst hv3
  have hv4 := vrep_int hv4
  subst hv4
  have hv5 := vrep_bool hv5
  subst hv5
  exact chg_after Tryz.func13 (by kernel_rfl) (by kernel_rfl) (by rw [make_len]; exact hr.2.1) (by intro a ha; simp [mkArgs, mkA] at ha; rcases ha with rfl | rfl | rfl | rfl | rfl | rfl <;> exact ⟨_, rfl⟩) rfl (make_calls t p kind mode ino own hr.1 hr.2.1 hr.2.2 hv0)
/-- The contract of edit.Link. -/
def elinkC : Con := conN [(.v, TreeT), (.v, .str), (.v, .str), (.v, .bool)] fun (t, f, p, own, _) => if fitT t ∧ t.length = 9 ∧ f.size ≤ 1000000000 ∧ p.size ≤ 1000000000 then some ⟨.tup [⟨TreeT, (linkT t f p own).1⟩, ⟨.int .i64, (linkT t f p own).2⟩], []⟩ else none
theorem elinkC_eq {t : Ty.den (TreeT)} {f : ByteArray} {p : ByteArray} {own : Bool} : elinkC [.val ⟨TreeT, t⟩, .val ⟨.str, f⟩, .val ⟨.str, p⟩, .val ⟨.bool, own⟩] = if fitT t ∧ t.length = 9 ∧ f.size ≤ 1000000000 ∧ p.size ≤ 1000000000 then some ⟨.tup [⟨TreeT, (linkT t f p own).1⟩, ⟨.int .i64, (linkT t f p own).2⟩], []⟩ else none := conN_mk (ks := [(.v, TreeT), (.v, .str), (.v, .str), (.v, .bool)]) (t, f, p, own, ())
def Γelink : Cons := cons []
theorem elink_ok : ConOK Tryz.prog 16 elinkC := by
  intro args out vals w R h hrd
  obtain ⟨x, e, h1⟩ := conN_inv h
  clear h
  obtain ⟨t, f, p, own, x0⟩ := x
  subst e
  replace h1 : (if fitT t ∧ List.length t = 9 ∧ ByteArray.size f ≤ 1000000000 ∧ ByteArray.size p ≤ 1000000000 then some (⟨.tup [⟨TreeT, (linkT t f p own).1⟩, ⟨.int .i64, (linkT t f p own).2⟩], []⟩ : Out) else none) = some out := h1
  split at h1
  case isFalse => cases h1
  rename_i hr
  injection h1 with h1
  subst h1
  obtain ⟨hrep, hnd, hap⟩ := hrd
  obtain ⟨v0, r0, rfl, hv0, v1, r1, rfl, hv1, v2, r2, rfl, hv2, v3, r3, rfl, hv3, e9⟩ := hrep
  subst e9
  have hv1 := vrep_str hv1
  subst hv1
  have hv2 := vrep_str hv2
  subst hv2
  have hv3 := vrep_bool hv3
  subst hv3
  exact chg_after Tryz.func16 (by kernel_rfl) (by kernel_rfl) (by rw [link_len]; exact hr.2.1) (by intro a ha; simp [mkArgs, mkA] at ha; rcases ha with rfl | rfl | rfl | rfl <;> exact ⟨_, rfl⟩) rfl (link_calls t f p own hr.1 hr.2.1 hr.2.2.1 hr.2.2.2 hv0)
/-- The contract of edit.Drop. -/
def edropC : Con := conN [(.v, TreeT), (.v, .str), (.v, .bool)] fun (t, p, own, _) => if fitT t ∧ t.length = 9 ∧ p.size ≤ 1000000000 then some ⟨.tup [⟨TreeT, (delT t p own).1⟩, ⟨.int .i64, (delT t p own).2⟩], []⟩ else none
theorem edropC_eq {t : Ty.den (TreeT)} {p : ByteArray} {own : Bool} : edropC [.val ⟨TreeT, t⟩, .val ⟨.str, p⟩, .val ⟨.bool, own⟩] = if fitT t ∧ t.length = 9 ∧ p.size ≤ 1000000000 then some ⟨.tup [⟨TreeT, (delT t p own).1⟩, ⟨.int .i64, (delT t p own).2⟩], []⟩ else none := conN_mk (ks := [(.v, TreeT), (.v, .str), (.v, .bool)]) (t, p, own, ())
def Γedrop : Cons := cons []
theorem edrop_ok : ConOK Tryz.prog 20 edropC := by
  intro args out vals w R h hrd
  obtain ⟨x, e, h1⟩ := conN_inv h
  clear h
  obtain ⟨t, p, own, x0⟩ := x
  subst e
  replace h1 : (if fitT t ∧ List.length t = 9 ∧ ByteArray.size p ≤ 1000000000 then some (⟨.tup [⟨TreeT, (delT t p own).1⟩, ⟨.int .i64, (delT t p own).2⟩], []⟩ : Out) else none) = some out := h1
  split at h1
  case isFalse => cases h1
  rename_i hr
  injection h1 with h1
  subst h1
  obtain ⟨hrep, hnd, hap⟩ := hrd
  obtain ⟨v0, r0, rfl, hv0, v1, r1, rfl, hv1, v2, r2, rfl, hv2, e9⟩ := hrep
  subst e9
  have hv1 := vrep_str hv1
  subst hv1
  have hv2 := vrep_bool hv2
  subst hv2
  exact chg_after Tryz.func20 (by kernel_rfl) (by kernel_rfl) (by rw [del_len]; exact hr.2.1) (by intro a ha; simp [mkArgs, mkA] at ha; rcases ha with rfl | rfl | rfl <;> exact ⟨_, rfl⟩) rfl (drop_calls t p own hr.1 hr.2.1 hr.2.2 hv0)
/-- The contract of edit.Move. -/
noncomputable def emoveC : Con := conN [(.v, TreeT), (.v, .str), (.v, .str), (.v, .bool)] fun (t, f, p, own, _) => if fitT t ∧ allDeep t ∧ t.length = 9 ∧ f.size ≤ 1000000000 ∧ p.size ≤ 1000000000 then some ⟨.tup [⟨TreeT, (moveT t f p own).1⟩, ⟨.int .i64, (moveT t f p own).2⟩], []⟩ else none
theorem emoveC_eq {t : Ty.den (TreeT)} {f : ByteArray} {p : ByteArray} {own : Bool} : emoveC [.val ⟨TreeT, t⟩, .val ⟨.str, f⟩, .val ⟨.str, p⟩, .val ⟨.bool, own⟩] = if fitT t ∧ allDeep t ∧ t.length = 9 ∧ f.size ≤ 1000000000 ∧ p.size ≤ 1000000000 then some ⟨.tup [⟨TreeT, (moveT t f p own).1⟩, ⟨.int .i64, (moveT t f p own).2⟩], []⟩ else none := conN_mk (ks := [(.v, TreeT), (.v, .str), (.v, .str), (.v, .bool)]) (t, f, p, own, ())
noncomputable def Γemove : Cons := cons []
theorem emove_ok : ConOK Tryz.prog 18 emoveC := by
  intro args out vals w R h hrd
  obtain ⟨x, e, h1⟩ := conN_inv h
  clear h
  obtain ⟨t, f, p, own, x0⟩ := x
  subst e
  replace h1 : (if fitT t ∧ allDeep t ∧ List.length t = 9 ∧ ByteArray.size f ≤ 1000000000 ∧ ByteArray.size p ≤ 1000000000 then some (⟨.tup [⟨TreeT, (moveT t f p own).1⟩, ⟨.int .i64, (moveT t f p own).2⟩], []⟩ : Out) else none) = some out := h1
  split at h1
  case isFalse => cases h1
  rename_i hr
  injection h1 with h1
  subst h1
  obtain ⟨hrep, hnd, hap⟩ := hrd
  obtain ⟨v0, r0, rfl, hv0, v1, r1, rfl, hv1, v2, r2, rfl, hv2, v3, r3, rfl, hv3, e9⟩ := hrep
  subst e9
  have hv1 := vrep_str hv1
  subst hv1
  have hv2 := vrep_str hv2
  subst hv2
  have hv3 := vrep_bool hv3
  subst hv3
  exact chg_after Tryz.func18 (by kernel_rfl) (by kernel_rfl) (by rw [move_len]; exact hr.2.2.1) (by intro a ha; simp [mkArgs, mkA] at ha; rcases ha with rfl | rfl | rfl | rfl <;> exact ⟨_, rfl⟩) rfl (move_calls t f p own hr.1 hr.2.1 hr.2.2.1 hr.2.2.2.1 hr.2.2.2.2 hv0)
end Go.Proofs.YtodkmhamaahjmaaGreatDoor
