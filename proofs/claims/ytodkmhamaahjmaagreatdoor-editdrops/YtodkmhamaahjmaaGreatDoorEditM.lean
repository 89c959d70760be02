/- edit: Drop: on the machine. -/
import Derived.Test.YtodkmhamaahjmaaGreatDoorG12
set_option maxRecDepth 100000
set_option maxHeartbeats 4000000
set_option linter.unusedSimpArgs false
set_option linter.unusedVariables false
set_option pp.deepTerms.threshold 20
namespace Go.Proofs.YtodkmhamaahjmaaGreatDoor
open Go.Tm Go.IntWalk Go.RowKit
/-- What is dropped, once its place is known. -/
def DropR (t : List Node) (k q : Nat) (S : ByteArray) (G : List Node × Int) : Prop :=
  G = if linksT (dropT t ((q : Int) + 1) S) ((k : Int) + 1) = 0 then (setT (dropT t ((q : Int) + 1) S) ((k : Int) + 1) dfltN, 0) else (dropT t ((q : Int) + 1) S, 0)
theorem some_bytes {s : ByteArray} (h : ¬ s = no) : (!s.toList.isEmpty) = true := by
  cases e : s.toList.isEmpty with
  | false => rfl
  | true =>
    rw [List.isEmpty_iff, toList_bl] at e
    exact absurd (bl_inj (e.trans rfl)) h
theorem drop1_calls {w0 w : World} {b : Nat} {ad : Addr} {c : Nat} {t : List Node} {own : Bool} (h : WK w0 w b ad c t own) (hf : fitT t) (p : ByteArray) (hsp : p.size ≤ 1000000000) {p1 : Nat}
    (h1 : w.heap[p1]? = some (.cells #[.string p] 9)) :
    Calls Tryz.prog 52 #[.pointer (some ⟨b, 0, none⟩), .pointer (some ⟨p1, 0, none⟩)] w fun en w' => en = (if (delT t p own).2 = 0 then .returned (.tuple #[]) else UpE (delT t p own).2) ∧ ((delT t p own).2 = 0 → WK w0 w' b ad c (delT t p own).1 own) ∧ But w (some ad) w' := by
  refine calls_post fun Q HQ0 => ?_
  have mixed : Tryz.prog.follows .mixedOrders = true := by kernel_rfl
  have h9 := h.2.2.1
  obtain ⟨ab, ao, rfl, hab0, _⟩ := h.node (k := 0) (by decide)
  obtain ⟨x0, x1, x2⟩ := h.cells
  obtain ⟨z1, _, _⟩ := box1 h1
  have bw0 : But w none (w.alloc (.cells #[.string p] 9)) := but_alloc _ _ _
  have eb0 : (w.alloc (.cells #[.string p] 9)).heap[w.heap.size]? = some (.cells #[.string p] 9) := (MapKept.heap_alloc w _).1
  have hways := ways_calls (h.move bw0) [p] (show 1 ≤ 1000 by decide) (fun s hs => by rw [List.mem_singleton.1 hs]; exact hsp) (cap := 1) (one_cells eb0) (Array.getElem?_eq_some_iff.1 eb0).1
  rw [allP_one] at hways
  have hL := delT.eq_1 t p own
  obtain ⟨G, hG⟩ : ∃ G, delT t p own = G := ⟨_, rfl⟩
  rw [hG] at hL HQ0
  have HQ := hid HQ0
  have HL := hid hL
  have H1 := hid h1
  clear hG HQ0 hL h1
  go_enter Tryz.func52, Tryz.ntmps52
  go_wp2_with fail
  refine hways.mono ?_
  clear hways
  rintro _ wa ⟨ea, ba⟩
  by_cases hA : (partsS p own).2 = true
  case neg =>
    rw [if_neg hA] at ea
    subst ea
    have hL := HL.out
    rw [show findT t p own = (0, 1) by unfold findT; rw [if_pos (by simpa using hA)], if_pos (by decide)] at hL
    exact ⟨rfl, HQ.out _ _ ⟨up_ans hL (by decide), up_not hL (by decide), but_any (bw0.trans ba)⟩⟩
  rw [if_pos hA] at ea
  subst ea
  have ha := h.move (bw0.trans ba)
  have b1 := bw0.trans ba
  have HB := hid b1
  obtain ⟨a1, _, _⟩ := box1 (but_box H1.out b1)
  clear z1 x0 x1 x2 ba bw0 eb0 b1 h
  go_wp2_with fail
  by_cases h0 : (findT t p own).2 = 0
  case neg =>
    refine (wfind_no ha hf p hsp h0).mono ?_
    rintro _ wb ⟨rfl, bb⟩
    have hL := HL.out
    rw [if_pos h0] at hL
    exact ⟨rfl, HQ.out _ _ ⟨up_ans hL h0, up_not hL h0, but_any (HB.out.trans bb)⟩⟩
  refine (wfind_ok ha hf p hsp h0).mono ?_
  rintro _ wb ⟨rfl, bb⟩
  have hL := HL.out
  rw [if_neg (by rw [h0]; simp)] at hL
  have hrg := findT_range h0
  by_cases hr1 : (findT t p own).1 = 1
  case pos =>
    rw [if_pos hr1] at hL
    have HL2 := hid hL
    rw [hr1]
    clear hL hrg hr1 h0
    go_wp2_with fail
    refine (no_yes _ _).mono ?_
    rintro _ wc ⟨rfl, rfl⟩
    exact ⟨rfl, HQ.out _ _ ⟨up_ans HL2.out (by decide), up_not HL2.out (by decide), but_any (HB.out.trans bb)⟩⟩
  rw [if_neg hr1] at hL
  have hpa := find_root h0 hr1
  have hwp := (find_parts h0).2
  obtain ⟨q1, q2, _⟩ := walk_snoc (by rw [← hwp]; exact h0) hpa
  obtain ⟨pr1, pr2, pr3, pr4⟩ := placeT_ok q1
  have hnf := names_folder pr1 pr2 pr3
  have hSz := place_name_size p own (fun e => hpa (List.eq_nil_of_length_eq_zero e)) q1
  obtain ⟨k, hk⟩ : ∃ k : Nat, (findT t p own).1 = (k : Int) + 1 := ⟨((findT t p own).1 - 1).toNat, by omega⟩
  have hk9 : k < 9 := by omega
  obtain ⟨q, hq⟩ : ∃ q : Nat, (placeT t (partsS p own).1).1 = (q : Int) + 1 := ⟨((placeT t (partsS p own).1).1 - 1).toNat, by omega⟩
  have hq9 : q < 9 := by omega
  obtain ⟨S, hS⟩ : ∃ S, (placeT t (partsS p own).1).2.1 = S := ⟨_, rfl⟩
  rw [hk, hq, hS] at hL
  rw [hk] at hr1 ⊢
  rw [hS] at hSz
  rw [hq] at hnf
  have HPL := hid (show placeT t (partsS p own).1 = ((q : Int) + 1, S, 0) by rw [← hq, ← hS, ← q1])
  have HPA := hid (show ¬ (partsS p own).1.length = 0 from fun e => hpa (List.eq_nil_of_length_eq_zero e))
  have HN := hid hnf
  have HL2 := hid hL
  have hr2 : ((k : Int) + 1 == 1) = false := beq_false_of_ne hr1
  have hb := ha.move bb
  have HB2 := hid (HB.out.trans bb)
  obtain ⟨a1, _, _⟩ := box1 (but_box H1.out HB2.out)
  clear hL hrg hr1 h0 hpa hwp q1 q2 pr1 pr2 pr3 pr4 hnf hk hq hS HL HB ha bb
  go_wp2_with fail
  refine (no_no _ _).mono ?_
  rintro _ wc ⟨rfl, rfl⟩
  clear hr2
  go_upto_region 3 with fail
  obtain ⟨_, _, ee, n0, nb, n1, n2, n3, n4, n5, n6⟩ := hb.node hk9
  injection ee with g1 g2
  subst g1 g2
  go_cut [] from 4 to 47 (fun wx => DropR t k q S G ∧ wx = wc)
  case first =>
    by_cases hk2 : (nodeT t ((k : Int) + 1)).1 = 2
    case pos =>
      by_cases hbo : (nodeT t ((k : Int) + 1)).2.2.1 = no
      case pos =>
        have hL := HL2.out
        rw [if_neg (fun h => h.2 hbo)] at hL
        have HL3 : Hid (DropR t k q S G) := hid hL
        rw [hbo] at n3
        rw [hk2] at n1
        clear hL hbo hk2
        go_wp2_with fail
        refine (node_calls hb hk9).mono ?_
        rintro _ wd ⟨rfl, rfl⟩
        go_wp2_with fail
        refine (node_calls hb hk9).mono ?_
        rintro _ wd ⟨rfl, rfl⟩
        go_wp2_with fail
        refine (no_no _ _).mono ?_
        rintro _ we ⟨rfl, rfl⟩
        go_wp2_with fail
        go_meet
        case rel => exact ⟨HL3.out, rfl⟩
      case neg =>
        have hL := HL2.out
        rw [if_pos ⟨hk2, hbo⟩] at hL
        have HL3 := hid hL
        rw [hk2] at n1
        have HBO := hid hbo
        obtain ⟨s, hs⟩ : ∃ s, (nodeT t ((k : Int) + 1)).2.2.1 = s := ⟨_, rfl⟩
        rw [hs] at n3 HBO
        clear hL hbo hk2
        go_wp2_with fail
        refine (node_calls hb hk9).mono ?_
        rintro _ wd ⟨rfl, rfl⟩
        go_wp2_with fail
        refine (node_calls hb hk9).mono ?_
        rintro _ wd ⟨rfl, rfl⟩
        go_wp2_with fail
        rw [some_bytes HBO.out]
        refine (no_yes _ _).mono ?_
        rintro _ we ⟨rfl, rfl⟩
        exact ⟨rfl, HQ.out _ _ ⟨up_ans HL3.out (by decide), up_not HL3.out (by decide), but_any HB2.out⟩⟩
    case neg =>
      have hL := HL2.out
      rw [if_neg (fun h => hk2 h.1)] at hL
      have HL3 : Hid (DropR t k q S G) := hid hL
      have hk3 : ((nodeT t ((k : Int) + 1)).1 == 2) = false := beq_false_of_ne hk2
      clear hL hk2
      go_wp2_with fail
      refine (node_calls hb hk9).mono ?_
      rintro _ wd ⟨rfl, rfl⟩
      go_wp2_with fail
      refine (no_no _ _).mono ?_
      rintro _ we ⟨rfl, rfl⟩
      go_wp2_with fail
      go_meet
      case rel => exact ⟨HL3.out, rfl⟩
  case rest =>
    obtain ⟨hdr, hwc⟩ := hcut
    subst hwc
    have HDR := hid hdr
    clear hdr n0 nb n1 n2 n3 n4 n5 n6
    go_wp2_with fail
    refine (place_some hb hf p hsp HPA.out).mono ?_
    rintro _ wd ⟨ed, bd⟩
    rw [HPL.out, if_pos rfl] at ed
    subst ed
    have hd := hb.move bd
    clear hb
    go_wp2_with fail
    refine (wcut_ok hd hf hq9 S).mono ?_
    rintro _ we ⟨rfl, he, be⟩
    have hdt : dropT t ((q : Int) + 1) S = setT t ((q : Int) + 1) (withBody (nodeT t ((q : Int) + 1)) (putD (lessD (takeD (bodyT t ((q : Int) + 1))).1 S).1).1) := by
      rw [dropT, HN.out]
    rw [← hdt] at he
    obtain ⟨t1, ht1⟩ : ∃ t1, dropT t ((q : Int) + 1) S = t1 := ⟨_, rfl⟩
    have hf1 : fitT t1 := by rw [← ht1]; exact dropT_fit hf _ _
    have hdr : G = if linksT t1 ((k : Int) + 1) = 0 then (setT t1 ((k : Int) + 1) dfltN, 0) else (t1, 0) := by rw [← ht1]; exact HDR.out
    rw [ht1] at he
    have HDR2 := hid hdr
    have HBE := hid ((but_any (A := some ⟨ab, ao, none⟩) (HB2.out.trans bd)).trans be)
    obtain ⟨x0, x1, x2⟩ := he.cells
    have HV := hid he.vrep
    clear hdt ht1 hdr be bd hd
    go_wp2_with fail
    refine (links_calls t1 _ hf1 HV.out).mono ?_
    rintro _ wf ⟨rfl, bf⟩
    have hx := he.move bf
    have HBF := hid (HBE.out.trans (but_any bf))
    obtain ⟨x0, x1, x2⟩ := hx.cells
    by_cases hl : linksT t1 ((k : Int) + 1) = 0
    case pos =>
      have hL := HDR2.out
      rw [if_pos hl] at hL
      have HL3 := hid hL
      rw [hl]
      obtain ⟨_, _, ee, n0, nb, n1, n2, n3, n4, n5, n6⟩ := hx.node hk9
      injection ee with g1 g2
      subst g1 g2
      clear hL hl
      go_wp2_with fail
      refine (node_calls hx hk9).mono ?_
      rintro _ wg ⟨rfl, rfl⟩
      go_wp2_with fail
      go_end0
      obtain ⟨hs3, bs3⟩ := hx.set3 hk9 0 0 no
      exact HQ.out _ _ ⟨by rw [HL3.out]; rfl, fun _ => by rw [HL3.out]; exact hs3, HBF.out.trans bs3⟩
    case neg =>
      have hL := HDR2.out
      rw [if_neg hl] at hL
      have HL3 := hid hL
      have hl2 : (linksT t1 ((k : Int) + 1) == 0) = false := beq_false_of_ne hl
      have HX := hid hx
      clear hL hl hx he
      go_wp2_with fail
      go_end0
      exact HQ.out _ _ ⟨by rw [HL3.out]; rfl, fun _ => by rw [HL3.out]; exact HX.out, HBF.out⟩
theorem drop_works {w1 : World} {t : List Node} {own : Bool} (hf : fitT t) (p : ByteArray) (hsp : p.size ≤ 1000000000) {p1 : Nat} (h1 : w1.heap[p1]? = some (.cells #[.string p] 9)) (C : Nat → Prop) :
    Works 52 #[.pointer (some ⟨p1, 0, none⟩)] C w1 t own (delT t p own) := fun w b ad c hb hw =>
  (drop1_calls hw hf p hsp (but_box h1 hb)).mono fun en w' h => ⟨h.1, h.2.1, but_kept h.2.2⟩
theorem del_len (t : List Node) (p : ByteArray) (own : Bool) : (delT t p own).1.length = t.length := by
  unfold delT
  repeat' split
  all_goals first | rfl | (rw [setT_len]; exact dropT_len _ _ _) | exact dropT_len _ _ _
theorem drop_calls (t : List Node) (p : ByteArray) (own : Bool) (hf : fitT t) (h9 : t.length = 9) (hsp : p.size ≤ 1000000000) {w : World} {R : Nat → Prop} {v : Value} (hv : vrep w R TreeT t v) :
    Calls Tryz.prog 20 #[v, .string p, .bool own] w (ChgR w (delT t p own).1 (delT t p own).2) := by
  have hmf : ∀ (fn : Fn) (first cap : Array Value) (w : World), (Instr.makeFunc fn first cap).run Tryz.prog w = .ok (.func fn first cap) w := fun _ _ _ _ => rfl
  have b1 : But w none (w.alloc (.cells #[.string p] 9)) := but_alloc _ _ _
  have e1 : (w.alloc (.cells #[.string p] 9)).heap[w.heap.size]? = some (.cells #[.string p] 9) := (MapKept.heap_alloc w _).1
  have hl : (delT t p own).1.length = 9 := by rw [del_len]; exact h9
  have hv1 := vrep_but (vrep_low hv) b1
  have hw := drop_works (own := own) hf p hsp e1 (fun _ => False)
  have hen := enter_of Tryz.func52 (by kernel_rfl) (by kernel_rfl)
  have hE : ¬ (delT t p own).2 = 0 → (delT t p own).1 = t := delT_err
  obtain ⟨G, hG⟩ : ∃ G, delT t p own = G := ⟨_, rfl⟩
  rw [hG] at hl hw hE ⊢
  have HW := hid hw
  have HE := hid hE
  clear hG hw hE
  by_cases h0 : G.2 = 0
  · have H0 := hid h0
    clear h0
    go_enter Tryz.func20, Tryz.ntmps20
    go_wp2_with fail
    refine (try_ok hen (C := fun _ => False) (fun _ h => h.elim) h9 (fun _ h => h.elim) hv1 H0.out HW.out).mono ?_
    rintro _ w2 ⟨u, rfl, hfr, hk⟩
    go_wp2_with fail
    go_ret2
    exact chg_fresh hl b1 (b1.trans (kept_but hk (fun _ h => h))) hfr
  · have H0 := hid h0
    clear h0
    go_enter Tryz.func20, Tryz.ntmps20
    go_wp2_with fail
    refine (try_up hen (C := fun _ => False) (fun _ h => h.elim) h9 (fun _ h => h.elim) hv1 H0.out HW.out).mono ?_
    rintro _ w2 ⟨u, rfl, hfr, hk⟩
    rw [← HE.out H0.out] at hfr
    go_wp2_with fail
    go_ret2
    exact chg_fresh hl b1 (b1.trans (kept_but hk (fun _ h => h))) hfr
end Go.Proofs.YtodkmhamaahjmaaGreatDoor
