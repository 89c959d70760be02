/- Texts joined: EditY, EditZ, EditN, EditO. -/
import Derived.Test.YtodkmhamaahjmaaGreatDoorG9
import Derived.Test.YtodkmhamaahjmaaGreatDoorEditW
import Derived.Deep.CutRange
/- edit: Make's function, on the machine. -/
set_option maxRecDepth 100000
set_option maxHeartbeats 4000000
set_option linter.unusedSimpArgs false
set_option linter.unusedVariables false
set_option pp.deepTerms.threshold 20
namespace Go.Proofs.YtodkmhamaahjmaaGreatDoor
open Go.Tm Go.IntWalk Go.RowKit
theorem hid {p : Prop} (h : p) : Hid p := h
/-- Where a number is asked for, or the first free one taken. -/
def Ok0 (t : List Node) (ino : Int) (k : Nat) : Prop := ¬ kindT t ((k : Int) + 1) = 0 → 0 < ino ∧ ((t.length : Int) < ino ∨ kindT t ino ≠ 0)
def IsN (t : List Node) (ino : Int) (k : Nat) : Prop := (if ino = 0 then freeT t else ino) = (k : Int) + 1
theorem calls_post {P : Program} {f : FuncId} {args : Array Value} {w : World} {Q : Ending → World → Prop} (h : ∀ Q' : Ending → World → Prop, (∀ e w', Q e w' → Q' e w') → Calls P f args w Q') : Calls P f args w Q := h Q (fun _ _ h => h)
theorem up_ans {G : List Node × Int} {u : List Node} {e : Int} (h : G = (u, e)) (he : ¬ e = 0) : UpE e = (if G.2 = 0 then Ending.returned (.tuple #[]) else UpE G.2) := by rw [h]; exact (if_neg he).symm
theorem up_not {G : List Node × Int} {u : List Node} {e : Int} {X : Prop} (h : G = (u, e)) (he : ¬ e = 0) : G.2 = 0 → X := by rw [h]; exact fun h => absurd h he
theorem kept_trans {w w1 w2 : World} {L : Nat → Prop} (h : Kept w L w1) (k : Kept w1 L w2) : Kept w L w2 := ⟨k.os.trans h.os, k.tape.trans h.tape, k.output.trans h.output, Nat.le_trans h.size k.size, fun x hx hn => (k.block x (Nat.lt_of_lt_of_le hx h.size) hn).trans (h.block x hx hn)⟩
theorem kept_none {w w1 : World} {L : Nat → Prop} (h : But w none w1) : Kept w L w1 := ⟨h.os, h.tape, h.output, h.size, fun x hx _ => h.block x hx (fun _ e => by cases e)⟩
theorem kept_some {w w1 : World} {L : Nat → Prop} {ad : Addr} (h : But w (some ad) w1) (hL : L ad.block) : Kept w L w1 := ⟨h.os, h.tape, h.output, h.size, fun x hx hn => h.block x hx (fun a e => by injection e with e; subst e; intro e; rw [e] at hL; exact hn hL)⟩
theorem kept_set {w : World} {L : Nat → Prop} {p o : Nat} {v : Value} (hL : L p) : Kept w L (w.setCell ⟨p, o, none⟩ v) := ⟨rfl, rfl, rfl, by rw [World.size_setCell]; exact Nat.le_refl _, fun x hx hn => RowKit.Below.heap_setCell _ _ _ _ (show x ≠ p from fun e => by rw [e] at hn; exact hn hL)⟩
theorem WK.other {w0 w : World} {b : Nat} {ad : Addr} {c : Nat} {t : List Node} {own : Bool} (h : WK w0 w b ad c t own) {p o : Nat} {v : Value} (hp : p < w0.heap.size) : WK w0 (w.setCell ⟨p, o, none⟩ v) b ad c t own := by
  obtain ⟨h1, h2, h3, h4, h5⟩ := h
  refine ⟨box_ne _ _ h1 (by omega), h2.move fun a e => ?_, h3, h4, h5⟩
  injection e with e; subst e
  have := (freshp_lt h2 rfl).1
  exact RowKit.Below.heap_setCell _ _ _ _ (show ad.block ≠ p by omega)
theorem WK.set3 {w0 w : World} {b : Nat} {ab ao : Nat} {c : Nat} {t : List Node} {own : Bool} (h : WK w0 w b ⟨ab, ao, none⟩ c t own) {k : Nat} (hk : k < 9) (x m : Int) (s : ByteArray) :
    WK w0 (((w.setCell ⟨ab, ao + k * 3, none⟩ (.int .i64 x)).setCell ⟨ab, ao + k * 3 + 1, none⟩ (.int .i64 m)).setCell ⟨ab, ao + k * 3 + 2, none⟩ (.string s)) b ⟨ab, ao, none⟩ c (setT t ((k : Int) + 1) (x, m, s, ())) own ∧
      But w (some ⟨ab, ao, none⟩) (((w.setCell ⟨ab, ao + k * 3, none⟩ (.int .i64 x)).setCell ⟨ab, ao + k * 3 + 1, none⟩ (.int .i64 m)).setCell ⟨ab, ao + k * 3 + 2, none⟩ (.string s)) := by
  obtain ⟨h1, ⟨h2, h3, h4, h5, h6, h7⟩, h9, hn, hb⟩ := h
  have hkt : k < t.length := by omega
  have et : setT t ((k : Int) + 1) (x, m, s, ()) = t.set k (x, m, s, ()) := by
    rw [setT, show ((k : Int) + 1 - 1).toNat = k by omega]
  rw [et]
  have hne : ¬ b = ab := fun e => hn e.symm
  refine ⟨⟨box_ne _ _ (box_ne _ _ (box_ne _ _ h1 hne) hne) hne, ⟨by rw [List.length_set]; exact h2, h3, cellsT_len _, ?_, fun w R => cellsT_rep _, .inr ?_⟩, by rw [List.length_set]; exact h9, hn, hb⟩, but_set (but_set (but_set (But.refl _ _) _) _) _⟩
  · exact rep_cells (w := w) (R := fun _ => True) (.arr _ NodeT) (x := t.set k (x, m, s, ())) ⟨rfl, cellsT_rep _⟩
  · rcases h7 with ⟨h7, _⟩ | ⟨ad', e, hm, hg⟩
    · cases h7
    injection e with e; subst e
    have hl : (cellsT t).length = 27 := by rw [cellsT_len, h9]
    have hc : k * 3 + 2 < c * NodeT.sz := by show _ < c * 3; omega
    have m1 := mem_set hm (k * 3) (.int .i64 x) (by omega) (by omega) rfl
    rw [ovr_set (by omega)] at m1
    have m2 := mem_set m1 (k * 3 + 1) (.int .i64 m) (by rw [List.length_set]; omega) (by omega) rfl
    rw [ovr_set (by rw [List.length_set]; omega)] at m2
    have m3 := mem_set m2 (k * 3 + 2) (.string s) (by rw [List.length_set, List.length_set]; omega) hc rfl
    rw [ovr_set (by rw [List.length_set, List.length_set]; omega), cellsT_set hkt, ← Nat.add_assoc, ← Nat.add_assoc] at m3
    exact ⟨_, rfl, m3, hg⟩
/-- What is made, once its place is known. -/
def MakeR (t : List Node) (q : Nat) (S : ByteArray) (kind mode ino : Int) (G : List Node × Int) : Prop :=
  G = if 0 < ino ∧ ((t.length : Int) < ino ∨ kindT t ino ≠ 0) then (t, 3) else
    if (if ino = 0 then freeT t else ino) = 0 then (t, 8) else
    if (putT t ((q : Int) + 1) (S, (if ino = 0 then freeT t else ino), ())).2 = false then (t, 8) else
    (setT (putT t ((q : Int) + 1) (S, (if ino = 0 then freeT t else ino), ())).1 (if ino = 0 then freeT t else ino) (kind, mode, no, ()), 0)
theorem makeR_there {t : List Node} {q : Nat} {S : ByteArray} {kind mode ino : Int} {G : List Node × Int} {k : Nat} (h : MakeR t q S kind mode ino G) (h0 : Ok0 t ino k) (hz : ¬ kindT t ((k : Int) + 1) = 0) : G = (t, 3) := by
  rw [h, if_pos (h0 hz)]
theorem makeR_full {t : List Node} {q : Nat} {S : ByteArray} {kind mode : Int} {G : List Node × Int} (h : MakeR t q S kind mode 0 G) (hz : freeT t = 0) : G = (t, 8) := by
  rw [h, if_neg (by omega), if_pos (by rw [if_pos rfl]; exact hz)]
theorem makeR_put {t : List Node} {q : Nat} {S : ByteArray} {kind mode ino : Int} {G : List Node × Int} {k : Nat} (h9 : t.length = 9) (hk : k < 9) (h : MakeR t q S kind mode ino G) (hn : IsN t ino k) (hz : kindT t ((k : Int) + 1) = 0) (hnm : namesT t ((q : Int) + 1) = (takeD (bodyT t ((q : Int) + 1))).1) :
    G = if (putD (withD (takeD (bodyT t ((q : Int) + 1))).1 (S, (k : Int) + 1, ())).1).2 = false then (t, 8) else
      (setT (setT t ((q : Int) + 1) (withBody (nodeT t ((q : Int) + 1)) (putD (withD (takeD (bodyT t ((q : Int) + 1))).1 (S, (k : Int) + 1, ())).1).1)) ((k : Int) + 1) (kind, mode, no, ()), 0) := by
  have hn : (if ino = 0 then freeT t else ino) = (k : Int) + 1 := hn
  rw [h, hn, if_neg, if_neg (by omega)]
  · unfold putT
    rw [hnm]
    by_cases e : (putD (withD (takeD (bodyT t ((q : Int) + 1))).1 (S, (k : Int) + 1, ())).1).2 = false
    · rw [if_pos e, if_pos e, if_pos rfl]
    · rw [if_neg e, if_neg e, if_neg (by simp)]
  · rintro ⟨a, b⟩
    rw [if_neg (by omega)] at hn
    rw [hn] at b
    rcases b with b | b
    · omega
    · exact b hz
theorem set_swap (t : List Node) {i j : Nat} (h : i ≠ j) (x y : Node) : setT (setT t ((i : Int) + 1) x) ((j : Int) + 1) y = setT (setT t ((j : Int) + 1) y) ((i : Int) + 1) x := by
  unfold setT
  rw [show ((i : Int) + 1 - 1).toNat = i by omega, show ((j : Int) + 1 - 1).toNat = j by omega]
  exact List.set_comm x y h
theorem set_else {t : List Node} {i j : Nat} (h : i ≠ j) (hi : i < t.length) (x : Node) : nodeT (setT t ((i : Int) + 1) x) ((j : Int) + 1) = nodeT t ((j : Int) + 1) := by
  rw [nodeT_set (by omega) (by omega) (by omega), if_neg (by omega)]
/-- May a node be made so? -/
def CondR (kind mode ino : Int) : Prop := (kind = 1 ∨ kind = 2) ∧ 0 ≤ mode ∧ mode ≤ 255 ∧ 0 ≤ ino ∧ ino ≤ 9
/-- The world once the number is known. -/
def MidR (w0 w : World) (b ab ao c : Nat) (t : List Node) (own : Bool) (ino kind mode : Int) (p2 p3 p4 sb q : Nat) (S : ByteArray) (wx : World) : Prop :=
  ∃ k : Nat, k < 9 ∧ IsN t ino k ∧ Ok0 t ino k ∧ WK w0 wx b ⟨ab, ao, none⟩ c t own ∧ Kept w (fun x => x = ab ∨ x = p4) wx ∧ wx.heap[p2]? = some (.cells #[.int .i64 kind] 3) ∧ wx.heap[p3]? = some (.cells #[.int .i64 mode] 3) ∧
    wx.heap[p4]? = some (.cells #[.int .i64 ((k : Int) + 1)] 3) ∧ wx.heap[sb]? = some (.cells #[.int .i64 ((q : Int) + 1), .string S] 65) ∧ sb ≠ ab
theorem one_cells {w : World} {b : Nat} {u : ByteArray} {T : TypeId} (h : w.heap[b]? = some (.cells #[.string u] T)) : ∀ k (hk : k < [u].length), w.cell? ⟨b, k, none⟩ = some (.string [u][k]) := fun k hk => by
  obtain ⟨h0, _⟩ := box1 h
  obtain rfl : k = 0 := by simp at hk; omega
  exact h0
theorem allP_one (f : ByteArray) (own : Bool) : allP [f] own = (partsS f own).2 := by
  show ((partsS f own).2 && true) = _
  rw [Bool.and_true]
theorem make1_calls {w0 w : World} {b : Nat} {ad : Addr} {c : Nat} {t : List Node} {own : Bool} (h : WK w0 w b ad c t own) (hf : fitT t) (p : ByteArray) (kind mode ino : Int) (hsp : p.size ≤ 1000000000) {p1 p2 p3 p4 : Nat} (hp4 : p4 < w0.heap.size) (h24 : p2 ≠ p4) (h34 : p3 ≠ p4)
    (h1 : w.heap[p1]? = some (.cells #[.string p] 9)) (h2 : w.heap[p2]? = some (.cells #[.int .i64 kind] 3)) (h3 : w.heap[p3]? = some (.cells #[.int .i64 mode] 3)) (h4 : w.heap[p4]? = some (.cells #[.int .i64 ino] 3)) :
    Calls Tryz.prog 31 #[.pointer (some ⟨b, 0, none⟩), .pointer (some ⟨p1, 0, none⟩), .pointer (some ⟨p2, 0, none⟩), .pointer (some ⟨p3, 0, none⟩), .pointer (some ⟨p4, 0, none⟩)] w fun en w' => en = (if (makeT t p kind mode ino own).2 = 0 then .returned (.tuple #[]) else UpE (makeT t p kind mode ino own).2) ∧ ((makeT t p kind mode ino own).2 = 0 → WK w0 w' b ad c (makeT t p kind mode ino own).1 own) ∧ Kept w (fun x => x = ad.block ∨ x = p4) w' := by
  refine calls_post fun Q HQ0 => ?_
  have mixed : Tryz.prog.follows .mixedOrders = true := by kernel_rfl
  have h9 := h.2.2.1
  obtain ⟨ab, ao, rfl, hab0, _⟩ := h.node (k := 0) (by decide)
  obtain ⟨x0, x1, x2⟩ := h.cells
  obtain ⟨z1, _, _⟩ := box1 h1
  have bw0 : But w none (w.alloc (.cells #[.string p] 9)) := but_alloc _ _ _
  have eb0 : (w.alloc (.cells #[.string p] 9)).heap[w.heap.size]? = some (.cells #[.string p] 9) := (MapKept.heap_alloc w _).1
  have hways := ways_calls (h.move bw0) [p] (show 1 ≤ 1000 by decide) (fun s hs => by rw [List.mem_singleton.1 hs]; exact hsp) (cap := 1) (one_cells eb0) (Array.getElem?_eq_some_iff.1 eb0).1
  rw [allP_one] at hways
  have hL := makeT.eq_1 t p kind mode ino own
  obtain ⟨G, hG⟩ : ∃ G, makeT t p kind mode ino own = G := ⟨_, rfl⟩
  rw [hG] at hL HQ0
  have HQ := hid (HQ0)
  have HL := hid (hL)
  have H1 := hid (h1)
  have H2 := hid (h2)
  have H3 := hid (h3)
  have H4 := hid (h4)
  clear hG HQ0 hL h1 h2 h3 h4
  go_enter Tryz.func31, Tryz.ntmps31
  go_wp2_with fail
  refine hways.mono ?_
  clear hways
  rintro _ wa ⟨ea, ba⟩
  by_cases hA : (partsS p own).2 = true
  case neg =>
    rw [if_neg hA] at ea
    subst ea
    have hL := HL.out
    rw [if_pos (.inl (by simpa using hA))] at hL
    exact ⟨rfl, HQ.out _ _ ⟨up_ans hL (by decide), up_not hL (by decide), kept_none (bw0.trans ba)⟩⟩
  rw [if_pos hA] at ea
  subst ea
  have ha := h.move (bw0.trans ba)
  have b1 := bw0.trans ba
  have HB := hid (b1)
  obtain ⟨a1, _, _⟩ := box1 (but_box H1.out b1)
  obtain ⟨a2, _, _⟩ := box1 (but_box H2.out b1)
  obtain ⟨a3, _, _⟩ := box1 (but_box H3.out b1)
  obtain ⟨a4, a5, a6⟩ := box1 (but_box H4.out b1)
  obtain ⟨y0, y1, y2⟩ := ha.cells
  have HA := hid hA
  clear z1 x0 x1 x2 ba bw0 eb0 b1 hA h
  go_upto_region 1 with fail
  go_cut [] from 7 to 63 (fun wx => CondR kind mode ino ∧ wx = wa)
  case first =>
    by_cases hk : kind ≠ 1 ∧ kind ≠ 2
    case pos =>
      have hL := HL.out
      rw [if_pos (.inr (.inl hk))] at hL
      have HL2 := hid hL
      have k1 : (kind != 1) = true := bne_iff_ne.2 hk.1
      have k2 : (kind != 2) = true := bne_iff_ne.2 hk.2
      clear hL hk
      go_wp2_with fail
      refine (no_yes _ _).mono ?_
      rintro _ w2 ⟨rfl, rfl⟩
      exact ⟨rfl, HQ.out _ _ ⟨up_ans HL2.out (by decide), up_not HL2.out (by decide), kept_none HB.out⟩⟩
    have hkk : kind = 1 ∨ kind = 2 := by omega
    clear hk
    by_cases hr : mode < 0 ∨ 255 < mode ∨ ino < 0 ∨ 9 < ino
    case pos =>
      have hL := HL.out
      rw [if_pos (.inr (.inr hr))] at hL
      have HL2 := hid hL
      clear hL
      rcases hkk with rfl | rfl
      all_goals
        by_cases r1 : mode < 0
        case pos =>
          clear hr
          go_wp2_with fail
          refine (no_yes _ _).mono ?_
          rintro _ w2 ⟨rfl, rfl⟩
          exact ⟨rfl, HQ.out _ _ ⟨up_ans HL2.out (by decide), up_not HL2.out (by decide), kept_none HB.out⟩⟩
        by_cases r2 : 255 < mode
        case pos =>
          clear hr
          go_wp2_with fail
          refine (no_yes _ _).mono ?_
          rintro _ w2 ⟨rfl, rfl⟩
          exact ⟨rfl, HQ.out _ _ ⟨up_ans HL2.out (by decide), up_not HL2.out (by decide), kept_none HB.out⟩⟩
        by_cases r3 : ino < 0
        case pos =>
          clear hr
          go_wp2_with fail
          refine (no_yes _ _).mono ?_
          rintro _ w2 ⟨rfl, rfl⟩
          exact ⟨rfl, HQ.out _ _ ⟨up_ans HL2.out (by decide), up_not HL2.out (by decide), kept_none HB.out⟩⟩
        have r4 : 9 < ino := by omega
        clear hr
        go_wp2_with fail
        refine (no_yes _ _).mono ?_
        rintro _ w2 ⟨rfl, rfl⟩
        exact ⟨rfl, HQ.out _ _ ⟨up_ans HL2.out (by decide), up_not HL2.out (by decide), kept_none HB.out⟩⟩
    have hb : (decide (mode < 0) || decide (255 < mode) || decide (ino < 0) || decide (9 < ino)) = false := by
      rw [decide_eq_false (by omega), decide_eq_false (by omega), decide_eq_false (by omega), decide_eq_false (by omega)]; rfl
    have HBB := hid hb
    have HCR := hid (show CondR kind mode ino from ⟨hkk, by omega, by omega, by omega, by omega⟩)
    have r1 : ¬ mode < 0 := by omega
    have r2 : ¬ 255 < mode := by omega
    have r3 : ¬ ino < 0 := by omega
    have r4 : ¬ 9 < ino := by omega
    clear hb hr
    rcases hkk with rfl | rfl
    all_goals
      go_wp2_with fail
      try rw [HBB.out]
      refine (no_no _ _).mono ?_
      rintro _ w2 ⟨rfl, rfl⟩
      go_wp2_with fail
      go_meet
      case rel => exact ⟨HCR.out, rfl⟩
  case rest =>
    obtain ⟨hcr, hwc⟩ := hcut
    subst hwc
    have hL := HL.out
    rw [if_neg (by rw [HA.out]; have := hcr; unfold CondR at this; rintro (h | h | h) <;> first | (cases h; done) | omega)] at hL
    have HCR := hid hcr
    have HL1 := hid hL
    clear hL hcr HL
    go_wp2_with fail
    by_cases h2 : (partsS p own).1.length = 0
    case pos =>
      have hL := HL1.out
      rw [if_pos h2] at hL
      have HL2 := hid hL
      refine (place_none ha hf p hsp h2).mono ?_
      rintro _ wd ⟨rfl, bd⟩
      exact ⟨rfl, HQ.out _ _ ⟨up_ans HL2.out (by decide), up_not HL2.out (by decide), kept_none (HB.out.trans bd)⟩⟩
    refine (place_some ha hf p hsp h2).mono ?_
    rintro _ wd ⟨ed, bd⟩
    have hL := HL1.out
    rw [if_neg h2] at hL
    by_cases h3 : (placeT t (partsS p own).1).2.2 = 0
    case neg =>
      rw [if_neg h3] at ed
      subst ed
      rw [if_pos h3] at hL
      exact ⟨rfl, HQ.out _ _ ⟨up_ans hL h3, up_not hL h3, kept_none (HB.out.trans bd)⟩⟩
    rw [if_pos h3] at ed
    subst ed
    rw [if_neg (by rw [h3]; simp)] at hL
    obtain ⟨pr1, pr2, pr3, pr4⟩ := placeT_ok h3
    have hnf := names_folder pr1 pr2 pr3
    have hSz := place_name_size p own h2 h3
    obtain ⟨q, hq⟩ : ∃ q : Nat, (placeT t (partsS p own).1).1 = (q : Int) + 1 := ⟨((placeT t (partsS p own).1).1 - 1).toNat, by omega⟩
    have hq9 : q < 9 := by omega
    obtain ⟨S, hS⟩ : ∃ S, (placeT t (partsS p own).1).2.1 = S := ⟨_, rfl⟩
    rw [hq, hS] at hL ⊢
    rw [hS] at hSz
    rw [hq] at hnf pr3
    rw [hnf] at hL
    have HL3 := hid hL
    have HP := hid pr3
    have HN := hid hnf
    have HB2 := hid (HB.out.trans bd)
    have hd := ha.move bd
    clear hL HL1 h2 h3 pr1 pr2 pr3 pr4 hnf hq hS HB y0 y1 y2 a1 a2 a3 a4 a5 a6 ha
    go_wp2_with fail
    refine (taken_calls (hd.move (but_alloc _ _ _)) hf hq9 S).mono ?_
    rintro _ we ⟨rfl, be⟩
    have hL := HL3.out
    by_cases h4 : (findD (takeD (bodyT t ((q : Int) + 1))).1 S).2 = true
    case pos =>
      rw [if_pos h4] at hL
      have HL4 := hid hL
      clear hL
      rw [h4]
      go_wp2_with fail
      refine (no_yes _ _).mono ?_
      rintro _ wg ⟨rfl, rfl⟩
      exact ⟨rfl, HQ.out _ _ ⟨up_ans HL4.out (by decide), up_not HL4.out (by decide), kept_none ((HB2.out.trans (but_alloc _ _ _)).trans be)⟩⟩
    rw [if_neg h4] at hL
    rw [Bool.eq_false_iff.2 h4]
    have HL4 : Hid (MakeR t q S kind mode ino G) := hid hL
    have hb3 : But w none we := (HB2.out.trans (but_alloc wd (.cells #[.int .i64 ((q : Int) + 1), .string S] 65) none)).trans be
    have HB3 := hid hb3
    have he := hd.move ((but_alloc wd (.cells #[.int .i64 ((q : Int) + 1), .string S] 65) none).trans be)
    have HSP := hid (but_box ((MapKept.heap_alloc wd (.cells #[.int .i64 ((q : Int) + 1), .string S] 65)).1) be)
    obtain ⟨a4, a5, a6⟩ := box1 (but_box H4.out hb3)
    clear hL h4 hd hb3 HL3 bd be
    go_wp2_with fail
    refine (no_no _ _).mono ?_
    rintro _ wg ⟨rfl, rfl⟩
    go_upto_region 4 with fail
    have lp4 : p4 < wd.heap.size := Nat.lt_of_lt_of_le (Array.getElem?_eq_some_iff.1 H4.out).1 HB2.out.size
    have HLP4 := hid (Nat.ne_of_gt lp4)
    have HLAB := hid (Nat.ne_of_gt (Nat.lt_of_lt_of_le hab0 HB2.out.size))
    obtain ⟨sb, hsb⟩ : ∃ sb, wd.heap.size = sb := ⟨_, rfl⟩
    rw [hsb] at HLP4 HLAB HSP ⊢
    clear lp4 hsb
    go_upto_if 42 with fail
    go_cut [] from 7 to 63 (fun wx => MidR w0 w b ab ao c t own ino kind mode p2 p3 p4 sb q S wx)
    case first =>
      by_cases hi : ino = 0
      case pos =>
        subst hi
        rcases freeI_free t with ⟨_, hz⟩ | ⟨i, _, hz, hi9⟩
        case inl =>
          have HL5 := hid (makeR_full HL4.out hz)
          go_wp2_with fail
          refine (free_calls he).mono ?_
          rintro _ wf ⟨ef, bf⟩
          rw [hz, if_pos rfl] at ef
          subst ef
          exact ⟨rfl, HQ.out _ _ ⟨up_ans HL5.out (by decide), up_not HL5.out (by decide), kept_none (HB3.out.trans bf)⟩⟩
        have HNN : Hid (IsN t 0 i) := hid ((if_pos rfl).trans hz)
        have HZ0 : Hid (Ok0 t 0 i) := hid (fun h => absurd (by rw [← hz]; exact (free_kind (by omega)).2.2) h)
        go_wp2_with fail
        refine (free_calls he).mono ?_
        rintro _ wf ⟨ef, bf⟩
        rw [hz, if_neg (by omega)] at ef
        subst ef
        have hmid : MidR w0 w b ab ao c t own 0 kind mode p2 p3 p4 sb q S (wf.setCell ⟨p4, 0, none⟩ (.int .i64 ((i : Int) + 1))) :=
          ⟨i, by omega, HNN.out, HZ0.out, (he.move bf).other hp4, kept_trans (kept_none (HB3.out.trans bf)) (kept_set (.inr rfl)), box_ne (b := p4) 0 _ (but_box H2.out (HB3.out.trans bf)) h24, box_ne (b := p4) 0 _ (but_box H3.out (HB3.out.trans bf)) h34, box1_set (but_box H4.out (HB3.out.trans bf)) _, box_ne (b := p4) 0 _ (but_box HSP.out bf) HLP4.out, HLAB.out⟩
        have HM := hid hmid
        obtain ⟨a4, a5, a6⟩ := box1 (but_box H4.out (HB3.out.trans bf))
        clear hmid hz he
        go_wp2_with fail
        go_meet
        case rel => exact HM.out
      case neg =>
        have hcr : CondR kind mode ino := HCR.out
        unfold CondR at hcr
        obtain ⟨k, hk⟩ : ∃ k : Nat, ino = (k : Int) + 1 := ⟨(ino - 1).toNat, by omega⟩
        have hmid : MidR w0 w b ab ao c t own ino kind mode p2 p3 p4 sb q S wg :=
          ⟨k, by omega, (if_neg hi).trans hk, fun h => ⟨by omega, .inr (by rw [hk]; exact h)⟩, he, kept_none HB3.out, but_box H2.out HB3.out, but_box H3.out HB3.out, by rw [← hk]; exact but_box H4.out HB3.out, HSP.out, HLAB.out⟩
        have HM := hid hmid
        have hi2 : (ino == 0) = false := beq_false_of_ne hi
        clear hmid hcr hk
        go_wp2_with fail
        go_meet
        case rel => exact HM.out
    case rest =>
      clear he a4 a5 a6
      obtain ⟨k, hk9, hN, hZ, hx, kx, e2, e3, e4, es, hsab⟩ := hcut
      have HSA := hid hsab
      have HNN := hid hN
      have HZ0 := hid hZ
      have HX := hid hx
      have HKX := hid kx
      have HX2 := hid e2
      have HX3 := hid e3
      have HX4 := hid e4
      have HXS := hid es
      obtain ⟨c2, _, _⟩ := box1 e2
      obtain ⟨c3, _, _⟩ := box1 e3
      obtain ⟨c4, _, _⟩ := box1 e4
      obtain ⟨_, _, ee, n0, nb, n1, n2, n3, n4, n5, n6⟩ := hx.node hk9
      injection ee with g1 g2
      subst g1 g2
      clear hN hZ kx e2 e3 e4 es hsab
      by_cases hz : (nodeT t ((k : Int) + 1)).1 = 0
      case neg =>
        have hz2 : ((nodeT t ((k : Int) + 1)).1 != 0) = true := bne_iff_ne.2 hz
        have HL5 := hid (makeR_there HL4.out HZ0.out hz)
        go_wp2_with fail
        refine (node_calls hx hk9).mono ?_
        rintro _ wy ⟨rfl, rfl⟩
        go_wp2_with fail
        refine (no_yes _ _).mono ?_
        rintro _ w5 ⟨rfl, rfl⟩
        exact ⟨rfl, HQ.out _ _ ⟨up_ans HL5.out (by decide), up_not HL5.out (by decide), HKX.out⟩⟩
      have HLP := hid (makeR_put h9 hk9 HL4.out HNN.out hz HN.out)
      have hqk : q ≠ k := fun e => by
        have := HP.out
        rw [e] at this
        rw [show kindT t ((k : Int) + 1) = (nodeT t ((k : Int) + 1)).1 from rfl, hz] at this
        cases this
      have HQK := hid hqk
      rw [hz] at n1
      clear hqk hz
      go_wp2_with fail
      refine (node_calls hx hk9).mono ?_
      rintro _ wy ⟨rfl, rfl⟩
      go_wp2_with fail
      refine (no_no _ _).mono ?_
      rintro _ w5 ⟨rfl, rfl⟩
      go_upto_region 7 with fail
      clear hx
      go_cut [] from 7 to 63 (fun wx => wx = (((w5.setCell ⟨ab, ao + k * 3, none⟩ (.int .i64 kind)).setCell ⟨ab, ao + k * 3 + 1, none⟩ (.int .i64 mode)).setCell ⟨ab, ao + k * 3 + 2, none⟩ (.string no)).drew)
      case first =>
        have hxd := HX.out.move (but_drew w5 none)
        have HXD := hid hxd
        clear hxd HLP HQK HL4 HNN HZ0 HKX HXS HX2 HX3 HX4 HX HN HP HSP HLP4 HB3 HB2 HCR H1 H2 H3 H4 HQ HA hsp hSz
        go_region_with (go_at_call 37; refine (node_calls HXD.out hk9).mono ?_; rintro _ wz ⟨rfl, rfl⟩)
        all_goals (go_wp2_with fail; go_meet; exact rfl)
      case rest =>
        subst hcut
        obtain ⟨hs3, bs3⟩ := HX.out.set3 hk9 kind mode no
        have hs4 := hs3.move (but_drew _ none)
        have ks : Kept w (fun x => x = ab ∨ x = p4) _ := kept_trans (kept_trans HKX.out (kept_some bs3 (.inl rfl))) (kept_none (but_drew _ none))
        have hn2 := set_else (fun e => HQK.out e.symm) (by rw [h9]; exact hk9) (kind, mode, no, ()) (t := t) (i := k) (j := q)
        have hpab : ¬ p4 = ab := fun e => by
          have := (freshp_lt HX.out.2.1 rfl).1
          simp only at this
          omega
        have e4 := box_ne (b := ab) (ao + k * 3 + 2) (.string no) (box_ne (b := ab) (ao + k * 3 + 1) (.int .i64 mode) (box_ne (b := ab) (ao + k * 3) (.int .i64 kind) HX4.out hpab) hpab) hpab
        have es := box_ne (b := ab) (ao + k * 3 + 2) (.string no) (box_ne (b := ab) (ao + k * 3 + 1) (.int .i64 mode) (box_ne (b := ab) (ao + k * 3) (.int .i64 kind) HXS.out HSA.out) HSA.out) HSA.out
        have e4 := but_box e4 (but_drew _ none)
        have es := but_box es (but_drew _ none)
        generalize (((w5.setCell ⟨ab, ao + k * 3, none⟩ (.int .i64 kind)).setCell ⟨ab, ao + k * 3 + 1, none⟩ (.int .i64 mode)).setCell ⟨ab, ao + k * 3 + 2, none⟩ (.string no)).drew = wz at hs4 ks e4 es ⊢
        have hb2 : bodyT (setT t ((k : Int) + 1) (kind, mode, no, ())) ((q : Int) + 1) = bodyT t ((q : Int) + 1) := by unfold bodyT; rw [hn2]
        obtain ⟨c4, _, _⟩ := box1 e4
        obtain ⟨s0, s1, _⟩ := box2 es
        have hf2 : fitT (setT t ((k : Int) + 1) (kind, mode, no, ())) := fit_set hf (show (no : ByteArray).size ≤ 4000000000 by decide)
        have HZ2 := hid hn2
        have HZB := hid hb2
        have HKS := hid ks
        have HS4 := hid hs4
        have HF2 := hid hf2
        clear hs3 bs3 hs4 ks hn2 hb2 hf2 e4 es hpab n0 n1 n2 n3 n4 n5 n6 c2 c3
        by_cases h5 : (putD (withD (takeD (bodyT t ((q : Int) + 1))).1 (S, (k : Int) + 1, ())).1).2 = true
        case neg =>
          have hL := HLP.out
          rw [if_pos (by simpa using h5)] at hL
          have HL5 := hid hL
          have H5 := hid (Bool.eq_false_iff.2 h5)
          clear hL h5
          go_wp2_with fail
          refine (wput_no HS4.out HF2.out hq9 S ((k : Int) + 1) hSz (by rw [HZB.out]; exact H5.out)).mono ?_
          rintro _ wh ⟨rfl, bh⟩
          exact ⟨rfl, HQ.out _ _ ⟨up_ans HL5.out (by decide), up_not HL5.out (by decide), kept_trans HKS.out (kept_none bh)⟩⟩
        case pos =>
          have hL := HLP.out
          rw [if_neg (by rw [h5]; simp)] at hL
          have HL5 := hid hL
          have H5 := hid h5
          clear hL h5
          go_wp2_with fail
          refine (wput_ok HS4.out HF2.out hq9 S ((k : Int) + 1) hSz (by rw [HZB.out]; exact H5.out)).mono ?_
          rintro _ wh ⟨rfl, hh, bh⟩
          rw [HZ2.out, HZB.out, set_swap t (fun e => HQK.out e.symm)] at hh
          have HH := hid hh
          clear hh
          go_wp2_with fail
          go_end0
          exact HQ.out _ _ ⟨by rw [HL5.out]; rfl, fun _ => by rw [HL5.out]; exact HH.out, kept_trans HKS.out (kept_some bh (.inl rfl))⟩
end Go.Proofs.YtodkmhamaahjmaaGreatDoor

/- edit: Make: on the machine. -/
set_option maxRecDepth 100000
set_option maxHeartbeats 4000000
set_option linter.unusedSimpArgs false
set_option linter.unusedVariables false
set_option pp.deepTerms.threshold 20
namespace Go.Proofs.YtodkmhamaahjmaaGreatDoor
open Go.Tm Go.IntWalk Go.RowKit
theorem kept_low {w w1 w' : World} {C : Nat → Prop} (b : But w none w1) (h : Kept w1 C w') (hC : ∀ x, C x → w.heap.size ≤ x) : But w none w' :=
  ⟨h.os.trans b.os, h.tape.trans b.tape, h.output.trans b.output, Nat.le_trans b.size h.size, fun x hx _ => (h.block x (Nat.lt_of_lt_of_le hx b.size) (fun hc => by have := hC x hc; omega)).trans (b.block x hx (fun _ e => by cases e))⟩
theorem make_works {w1 : World} {t : List Node} {own : Bool} (hf : fitT t) (p : ByteArray) (kind mode ino : Int) (hsp : p.size ≤ 1000000000) {p1 p2 p3 p4 : Nat} (hp4 : p4 < w1.heap.size) (h24 : p2 ≠ p4) (h34 : p3 ≠ p4)
    (h1 : w1.heap[p1]? = some (.cells #[.string p] 9)) (h2 : w1.heap[p2]? = some (.cells #[.int .i64 kind] 3)) (h3 : w1.heap[p3]? = some (.cells #[.int .i64 mode] 3)) (h4 : w1.heap[p4]? = some (.cells #[.int .i64 ino] 3)) :
    Works 31 #[.pointer (some ⟨p1, 0, none⟩), .pointer (some ⟨p2, 0, none⟩), .pointer (some ⟨p3, 0, none⟩), .pointer (some ⟨p4, 0, none⟩)] (fun x => x = p4) w1 t own (makeT t p kind mode ino own) := fun w b ad c hb hw =>
  make1_calls hw hf p kind mode ino hsp hp4 h24 h34 (but_box h1 hb) (but_box h2 hb) (but_box h3 hb) (but_box h4 hb)
theorem make_len (t : List Node) (p : ByteArray) (kind mode ino : Int) (own : Bool) : (makeT t p kind mode ino own).1.length = t.length := by
  unfold makeT
  generalize (if ino = 0 then freeT t else ino) = N
  repeat' split
  all_goals first | rfl | (rw [setT_len]; exact putT_len _ _ _)
theorem make_calls (t : List Node) (p : ByteArray) (kind mode ino : Int) (own : Bool) (hf : fitT t) (h9 : t.length = 9) (hsp : p.size ≤ 1000000000) {w : World} {R : Nat → Prop} {v : Value} (hv : vrep w R TreeT t v) :
    Calls Tryz.prog 13 #[v, .string p, .int .i64 kind, .int .i64 mode, .int .i64 ino, .bool own] w (ChgR w (makeT t p kind mode ino own).1 (makeT t p kind mode ino own).2) := by
  have hmf : ∀ (fn : Fn) (first cap : Array Value) (w : World), (Instr.makeFunc fn first cap).run Tryz.prog w = .ok (.func fn first cap) w := fun _ _ _ _ => rfl
  have b1 : But w none (w.alloc (.cells #[.string p] 9)) := but_alloc _ _ _
  have b2 : But w none ((w.alloc (.cells #[.string p] 9)).alloc (.cells #[.int .i64 kind] 3)) := b1.trans (but_alloc _ _ _)
  have b3 : But w none (((w.alloc (.cells #[.string p] 9)).alloc (.cells #[.int .i64 kind] 3)).alloc (.cells #[.int .i64 mode] 3)) := b2.trans (but_alloc _ _ _)
  have b4 : But w none ((((w.alloc (.cells #[.string p] 9)).alloc (.cells #[.int .i64 kind] 3)).alloc (.cells #[.int .i64 mode] 3)).alloc (.cells #[.int .i64 ino] 3)) := b3.trans (but_alloc _ _ _)
  have e1 : ((((w.alloc (.cells #[.string p] 9)).alloc (.cells #[.int .i64 kind] 3)).alloc (.cells #[.int .i64 mode] 3)).alloc (.cells #[.int .i64 ino] 3)).heap[w.heap.size]? = some (.cells #[.string p] 9) := but_box (but_box (but_box (MapKept.heap_alloc w _).1 (but_alloc _ _ none)) (but_alloc _ _ none)) (but_alloc _ _ none)
  have e2 : ((((w.alloc (.cells #[.string p] 9)).alloc (.cells #[.int .i64 kind] 3)).alloc (.cells #[.int .i64 mode] 3)).alloc (.cells #[.int .i64 ino] 3)).heap[w.heap.size + 1]? = some (.cells #[.int .i64 kind] 3) := by
    refine but_box (but_box ?_ (but_alloc _ _ none)) (but_alloc _ _ none)
    have := (MapKept.heap_alloc (w.alloc (.cells #[.string p] 9)) (.cells #[.int .i64 kind] 3)).1
    rwa [size_alloc] at this
  have e3 : ((((w.alloc (.cells #[.string p] 9)).alloc (.cells #[.int .i64 kind] 3)).alloc (.cells #[.int .i64 mode] 3)).alloc (.cells #[.int .i64 ino] 3)).heap[w.heap.size + 1 + 1]? = some (.cells #[.int .i64 mode] 3) := by
    refine but_box ?_ (but_alloc _ _ none)
    have := (MapKept.heap_alloc ((w.alloc (.cells #[.string p] 9)).alloc (.cells #[.int .i64 kind] 3)) (.cells #[.int .i64 mode] 3)).1
    rwa [size_alloc, size_alloc] at this
  have e4 : ((((w.alloc (.cells #[.string p] 9)).alloc (.cells #[.int .i64 kind] 3)).alloc (.cells #[.int .i64 mode] 3)).alloc (.cells #[.int .i64 ino] 3)).heap[w.heap.size + 1 + 1 + 1]? = some (.cells #[.int .i64 ino] 3) := by
    have := (MapKept.heap_alloc (((w.alloc (.cells #[.string p] 9)).alloc (.cells #[.int .i64 kind] 3)).alloc (.cells #[.int .i64 mode] 3)) (.cells #[.int .i64 ino] 3)).1
    rwa [size_alloc, size_alloc, size_alloc] at this
  have hl : (makeT t p kind mode ino own).1.length = 9 := by rw [make_len]; exact h9
  have hv1 := vrep_but (vrep_low hv) b4
  have hw := make_works (own := own) hf p kind mode ino hsp (Array.getElem?_eq_some_iff.1 e4).1 (by omega) (by omega) e1 e2 e3 e4
  have hC : ∀ x, x = w.heap.size + 1 + 1 + 1 → x < ((((w.alloc (.cells #[.string p] 9)).alloc (.cells #[.int .i64 kind] 3)).alloc (.cells #[.int .i64 mode] 3)).alloc (.cells #[.int .i64 ino] 3)).heap.size := fun x e => by rw [e]; exact (Array.getElem?_eq_some_iff.1 e4).1
  have hen := enter_of Tryz.func31 (by kernel_rfl) (by kernel_rfl)
  have hE : ¬ (makeT t p kind mode ino own).2 = 0 → (makeT t p kind mode ino own).1 = t := makeT_err
  obtain ⟨G, hG⟩ : ∃ G, makeT t p kind mode ino own = G := ⟨_, rfl⟩
  rw [hG] at hl hw hE ⊢
  have HW := hid hw
  have HE := hid hE
  have HC := hid hC
  clear hG hw hE hC
  by_cases h0 : G.2 = 0
  · have H0 := hid h0
    clear h0
    go_enter Tryz.func13, Tryz.ntmps13
    go_wp2_with fail
    refine (try_ok hen (C := fun x => x = w.heap.size + 1 + 1 + 1) HC.out h9 (fun x e => by omega) hv1 H0.out HW.out).mono ?_
    rintro _ w2 ⟨u, rfl, hfr, hk⟩
    go_wp2_with fail
    go_ret2
    exact chg_fresh hl b4 (kept_low b4 hk (fun x e => by omega)) hfr
  · have H0 := hid h0
    clear h0
    go_enter Tryz.func13, Tryz.ntmps13
    go_wp2_with fail
    refine (try_up hen (C := fun x => x = w.heap.size + 1 + 1 + 1) HC.out h9 (fun x e => by omega) hv1 H0.out HW.out).mono ?_
    rintro _ w2 ⟨u, rfl, hfr, hk⟩
    rw [← HE.out H0.out] at hfr
    go_wp2_with fail
    go_ret2
    exact chg_fresh hl b4 (kept_low b4 hk (fun x e => by omega)) hfr
end Go.Proofs.YtodkmhamaahjmaaGreatDoor

/- slices.ContainsFunc over entries, with a function that is called on each: on the machine. -/
set_option maxRecDepth 100000
set_option maxHeartbeats 4000000
set_option linter.unusedSimpArgs false
set_option linter.unusedVariables false
set_option pp.deepTerms.threshold 20
namespace Go.Proofs.YtodkmhamaahjmaaGreatDoor
open Go.Tm Go.IntWalk Go.RowKit
theorem ent_cells {w : World} {R : Nat → Prop} {l : List Ent} {A : Option Addr} {c : Nat} (hv : vrep w R (.slice EntT) l (.slice A l.length c)) (k : Nat) (hk : k < l.length) : ∃ ab ao, A = some ⟨ab, ao, none⟩ ∧ w.cell? ⟨ab, ao + k * 2, none⟩ = some (.string l[k].1) ∧ w.cell? ⟨ab, ao + k * 2 + 1, none⟩ = some (.int .i64 l[k].2.1) ∧ ab < w.heap.size := by
  obtain ⟨csv, ⟨A', c', e1, h1, h2, h3⟩, e⟩ := hv
  subst e1
  have e : Value.slice A l.length c = .slice A' l.length c' := e
  injection e with e2 e3 e4
  subst e2 e4
  rcases h3 with rfl | ⟨⟨ab, ao, sp⟩, inner, rfl, h4, h5, h6, h7⟩
  · simp at hk
  have hget := h6.get (n := 2) (fun x c hx => rep_len EntT hx) k l[k] (List.getElem?_eq_getElem hk)
  obtain ⟨d1, d2, e0, r1, d3, d4, rfl, r3, r4⟩ := hget
  have r1 : d1 = [.string l[k].1] := r1
  have r3 : d3 = [.int .i64 l[k].2.1] := r3
  have r4 : d4 = [] := r4
  subst r1 r3 r4
  have e2 : inner[k * 2]? = some (.string l[k].1) := by
    have h := congrArg (fun z => z[0]?) e0
    simp only [List.getElem?_take, List.getElem?_drop] at h
    simpa using h
  have e3 : inner[k * 2 + 1]? = some (.int .i64 l[k].2.1) := by
    have h := congrArg (fun z => z[1]?) e0
    simp only [List.getElem?_take, List.getElem?_drop] at h
    simpa using h
  have hsp : sp = none := by
    cases sp with
    | none => rfl
    | some s =>
      exfalso
      have h0 : 0 < inner.length := by have := (List.getElem?_eq_some_iff.1 e2).1; omega
      have := h7 0 _ (List.getElem?_eq_getElem h0)
      simp [Addr.add, World.cell?] at this
      split at this <;> simp at this
  subst hsp
  refine ⟨ab, ao, rfl, ?_, ?_, h5⟩
  · have := h7 _ _ e2; rwa [Addr.add_lit] at this
  · have := h7 _ _ e3; rwa [Addr.add_lit, ← Nat.add_assoc] at this
def idxE (P : Ent → Bool) (l : List Ent) : Int := match l.findIdx? P with | some i => (i : Int) | none => -1
theorem idxE_hit {P : Ent → Bool} {l : List Ent} {i : Nat} (h : i < l.length) (hp : P l[i] = true) (hk : ∀ k, (hk : k < l.length) → k < i → P l[k] = false) : idxE P l = (i : Int) := by
  have : l.findIdx? P = some i := by
    rw [List.findIdx?_eq_some_iff_getElem]
    exact ⟨h, hp, fun j hj => by rw [hk j (by omega) hj]; decide⟩
  unfold idxE; rw [this]
theorem idxE_none {P : Ent → Bool} {l : List Ent} (hk : ∀ k, (hk : k < l.length) → P l[k] = false) : idxE P l = -1 := by
  have : l.findIdx? P = none := by
    rw [List.findIdx?_eq_none_iff]
    intro x hx
    obtain ⟨k, hk2, rfl⟩ := List.getElem_of_mem hx
    exact hk k hk2
  unfold idxE; rw [this]
theorem idxE_any (P : Ent → Bool) (l : List Ent) : decide (0 ≤ idxE P l) = l.any P := by
  unfold idxE
  cases h : l.findIdx? P with
  | none =>
    rw [List.findIdx?_eq_none_iff] at h
    rw [List.any_eq_false.2 fun x hx => by rw [h x hx]; decide]
    rfl
  | some i =>
    rw [List.findIdx?_eq_some_iff_getElem] at h
    obtain ⟨h1, h2, _⟩ := h
    rw [List.any_eq_true.2 ⟨l[i], List.getElem_mem h1, h2⟩]
    exact decide_eq_true (by simp only; omega)
/-- What a function says of entries, whenever it is called. -/
def SaysE (fid : FuncId) (caps : Array Value) (P : Ent → Bool) (l : List Ent) (w : World) : Prop :=
  ∀ e ∈ l, ∀ w1, But w none w1 → Calls Tryz.prog fid (#[.agg #[.string e.1, .int .i64 e.2.1]] ++ caps) w1 fun en w2 => en = .returned (.bool (P e)) ∧ But w1 none w2
theorem indexE_calls {fid : FuncId} (hen : ∀ args w, (callFunc fid args).run Tryz.prog w = .ok (.enter fid args) w) {caps : Array Value} {P : Ent → Bool} {l : List Ent} (hl : l.length ≤ 1000) {w : World} {R : Nat → Prop} {v : Value} (hv : vrep w R (.slice EntT) l v) (hs : SaysE fid caps P l w) :
    Calls Tryz.prog 94 #[v, .func (.func fid) #[] caps] w fun en w' => en = .returned (.int .i64 (idxE P l)) ∧ But w none w' := by
  refine calls_post fun Q HQ0 => ?_
  have mixed : Tryz.prog.follows .mixedOrders = true := by kernel_rfl
  obtain ⟨A, cap, rfl, hc1, hc2⟩ := slice_val hv
  have HC := hid (fun k hk => ent_cells hv k hk)
  have HS := hid hs
  have HQ := hid HQ0
  obtain ⟨N, hN⟩ : ∃ N, N = l.length := ⟨_, rfl⟩
  rw [← hN]
  have HN := hid hN
  have HL := hid hl
  clear hN hl hv hs HQ0 hc1 hc2
  go_enter Tryz.func94, Tryz.ntmps94
  go_wp2_with fail
  go_loopw [8] (fun i wr => ∃ k : Nat, i = .int .i64 k ∧ k ≤ l.length ∧ (∀ j (hj : j < l.length), j < k → P l[j] = false) ∧ But w none wr) (fun i _ => N - (intOf i).toNat)
  case atStart => exact ⟨0, rfl, Nat.zero_le _, fun j _ h => absurd h (Nat.not_lt_zero _), But.refl _ _⟩
  case round =>
    obtain ⟨k, rfl, hk, hall, hB⟩ := hrel
    by_cases hlt : k < l.length
    case pos =>
      have hlN : k < N := by rw [HN.out]; exact hlt
      have hw1 : wrap64 ((k : Int) + 1) = (k : Int) + 1 := wrap64_in _ (by have := HL.out; omega)
      obtain ⟨ab, ao, rfl, c0, c1, hab⟩ := HC.out k hlt
      have hb := hB.block ab hab (fun _ h => by cases h)
      have c2 : wr.cell? ⟨ab, ao + k * 2, none⟩ = some (.string l[k].1) := by
        simp only [World.cell?] at c0 ⊢
        rw [hb]; exact c0
      have c3 : wr.cell? ⟨ab, ao + k * 2 + 1, none⟩ = some (.int .i64 l[k].2.1) := by
        simp only [World.cell?] at c1 ⊢
        rw [hb]; exact c1
      have hcall := HS.out l[k] (List.getElem_mem hlt) wr hB
      have HW := hid hw1
      have HA := hid hall
      have HK := hid hlt
      obtain ⟨x, HE, c4, c5, HCL⟩ : ∃ x : Ent, Hid (∃ h : k < l.length, l[k] = x) ∧ wr.cell? ⟨ab, ao + k * 2, none⟩ = some (.string x.1) ∧ wr.cell? ⟨ab, ao + k * 2 + 1, none⟩ = some (.int .i64 x.2.1) ∧ Hid (Calls Tryz.prog fid (#[Value.agg #[Value.string x.1, Value.int .i64 x.2.1]] ++ caps) wr fun en w2 => en = Ending.returned (Value.bool (P x)) ∧ But wr none w2) := ⟨l[k], hid ⟨hlt, rfl⟩, c2, c3, hid hcall⟩
      obtain ⟨x1, x2, x3⟩ := x
      have HBB := hid hB
      clear hw1 hall hk c0 c1 c2 c3 hlt hcall hb hab hB
      cases hq : P (x1, x2, x3) with
      | true =>
        have HP := hid hq
        clear hq
        go_wp2_with fail
        refine (HCL.out).mono ?_
        rintro _ w1 ⟨rfl, b1⟩
        rw [HP.out]
        go_wp2_with fail
        refine HQ.out _ _ ⟨?_, HBB.out.trans b1⟩
        obtain ⟨hk, he⟩ := HE.out
        rw [idxE_hit hk (by rw [he]; exact HP.out) HA.out]
        rfl
      | false =>
        have HP := hid hq
        clear hq
        go_wp2_with fail
        refine (HCL.out).mono ?_
        rintro _ w1 ⟨rfl, b1⟩
        rw [HP.out]
        go_wp2_with fail
        go_roundw
        case rel =>
          refine ⟨k + 1, by simp; exact HW.out, HK.out, fun j hj hjk => ?_, HBB.out.trans b1⟩
          rcases Nat.lt_or_ge j k with h3 | h3
          · exact HA.out j hj h3
          · obtain rfl : j = k := by omega
            obtain ⟨_, he⟩ := HE.out
            rw [he]; exact HP.out
        case measure =>
          show N - (intOf (.int .i64 (wrap64 ((k : Int) + 1)))).toNat < N - (intOf (.int .i64 (k : Int))).toNat
          rw [HW.out]
          exact loop_less hlN
    case neg =>
      have e : N = k := by rw [HN.out]; omega
      subst e
      have HA := hid (idxE_none (fun j hj => hall j hj (by rw [HN.out]; exact hj)))
      have HBB := hid hB
      clear hall hk hlt hB
      go_wp2_with fail
      exact HQ.out _ _ ⟨by rw [HA.out]; rfl, HBB.out⟩
end Go.Proofs.YtodkmhamaahjmaaGreatDoor

/- edit: within: on the machine. -/
set_option maxRecDepth 100000
set_option maxHeartbeats 4000000
set_option linter.unusedSimpArgs false
set_option linter.unusedVariables false
set_option pp.deepTerms.threshold 20
namespace Go.Proofs.YtodkmhamaahjmaaGreatDoor
open Go.Tm Go.IntWalk Go.RowKit
theorem contains_calls {fid : FuncId} (hen : ∀ args w, (callFunc fid args).run Tryz.prog w = .ok (.enter fid args) w) {caps : Array Value} {P : Ent → Bool} {l : List Ent} (hl : l.length ≤ 1000) {w : World} {R : Nat → Prop} {v : Value} (hv : vrep w R (.slice EntT) l v) (hs : SaysE fid caps P l w) :
    Calls Tryz.prog 75 #[v, .func (.func fid) #[] caps] w fun en w' => en = .returned (.bool (l.any P)) ∧ But w none w' := by
  refine calls_post fun Q HQ0 => ?_
  have mixed : Tryz.prog.follows .mixedOrders = true := by kernel_rfl
  have hi := indexE_calls hen hl hv hs
  have HQ := hid HQ0
  rw [← idxE_any] at HQ
  obtain ⟨I, hI⟩ : ∃ I, idxE P l = I := ⟨_, rfl⟩
  rw [hI] at hi HQ
  have HI := hid hi
  clear hI hi HQ0 hs hv hl
  go_enter Tryz.func75, Tryz.ntmps75
  go_wp2_with fail
  refine HI.out.mono ?_
  rintro _ wa ⟨rfl, ba⟩
  have HB := hid ba
  clear ba
  go_wp2_with fail
  exact HQ.out _ _ ⟨rfl, HB.out⟩
theorem within_any {t : List Node} (h9 : t.length = 9) {d i : Int} (hd : kindT t d = 2) (hne : d ≠ i) : (namesT t i).any (fun e => withinB t d e.2.1) = withinB t d i := by
  cases h : withinB t d i with
  | true =>
    have hw := of_withinB h
    rw [List.any_eq_true]
    cases hw with
    | here => exact absurd rfl hne
    | down he hl hk hw => exact ⟨_, he, withinB_yes hw⟩
  | false =>
    have hw := not_withinB h
    rw [List.any_eq_false]
    intro e he hwe
    have hwe := of_withinB hwe
    by_cases hk : kindT t e.2.1 = 2
    · exact hw (.down he (by have := (okE_out (namesT_ok he)).2; omega) hk hwe)
    · have := no_names (names_file hk) hwe
      rw [this] at hd
      exact hk hd
theorem within_flat {w0 w : World} {b : Nat} {ad : Addr} {c : Nat} {t : List Node} {own : Bool} (h : WK w0 w b ad c t own) {d : Int} {k : Nat} (hk : k < 9) {n : Int} (hf : d = (k : Int) + 1 ∨ ¬ (nodeT t ((k : Int) + 1)).1 = 2) :
    Calls Tryz.prog 48 #[.pointer (some ⟨b, 0, none⟩), .int .i64 d, .int .i64 ((k : Int) + 1), .int .i64 n] w fun en w' => en = .returned (.bool (d == (k : Int) + 1)) ∧ But w none w' := by
  refine calls_post fun Q HQ0 => ?_
  have mixed : Tryz.prog.follows .mixedOrders = true := by kernel_rfl
  have b1 : But w none (w.alloc (.cells #[.pointer (some ⟨b, 0, none⟩)] 61)) := but_alloc _ _ _
  have b2 : But w none ((w.alloc (.cells #[.pointer (some ⟨b, 0, none⟩)] 61)).alloc (.cells #[.int .i64 d] 3)) := b1.trans (but_alloc _ _ _)
  have b3 : But w none (((w.alloc (.cells #[.pointer (some ⟨b, 0, none⟩)] 61)).alloc (.cells #[.int .i64 d] 3)).alloc (.cells #[.int .i64 n] 3)) := b2.trans (but_alloc _ _ _)
  have h3 := h.move b3
  obtain ⟨ab, ao, rfl, n0, nb, n1, n2, n3, n4, n5, n6⟩ := h3.node hk
  have HQ := hid HQ0
  have HB := hid b3
  clear h HQ0 b1 b2 b3
  by_cases hd : d = (k : Int) + 1
  · subst hd
    clear hf
    go_enter Tryz.func48, Tryz.ntmps48
    go_wp2_with fail
    exact HQ.out _ _ ⟨by simp, HB.out⟩
  · have hd2 : (d == (k : Int) + 1) = false := beq_false_of_ne hd
    have hk2 : ((nodeT t ((k : Int) + 1)).1 != 2) = true := bne_iff_ne.2 (hf.resolve_left hd)
    clear hf hd
    by_cases hn2 : 9 < n
    · go_enter Tryz.func48, Tryz.ntmps48
      go_wp2_with fail
      exact HQ.out _ _ ⟨by rw [hd2]; rfl, HB.out⟩
    go_enter Tryz.func48, Tryz.ntmps48
    go_wp2_with fail
    refine (node_calls h3 hk).mono ?_
    rintro _ wa ⟨rfl, rfl⟩
    go_wp2_with fail
    exact HQ.out _ _ ⟨by rw [hd2]; rfl, HB.out⟩
theorem within1_calls {w0 w : World} {b : Nat} {ad : Addr} {c : Nat} {t : List Node} {own : Bool} (h : WK w0 w b ad c t own) {d n : Int} (hn0 : 0 ≤ n) (hn : n ≤ 9) {e : Ent} {p4 p5 p7 : Nat}
    (h4 : w.heap[p4]? = some (.cells #[.pointer (some ⟨b, 0, none⟩)] 61)) (h5 : w.heap[p5]? = some (.cells #[.int .i64 d] 3)) (h7 : w.heap[p7]? = some (.cells #[.int .i64 n] 3))
    (hrec : ∀ w1, WK w0 w1 b ad c t own → Calls Tryz.prog 48 #[.pointer (some ⟨b, 0, none⟩), .int .i64 d, .int .i64 e.2.1, .int .i64 (n + 1)] w1 fun en w' => en = .returned (.bool (withinB t d e.2.1)) ∧ But w1 none w') :
    Calls Tryz.prog 76 #[.agg #[.string e.1, .int .i64 e.2.1], .pointer (some ⟨p4, 0, none⟩), .pointer (some ⟨p5, 0, none⟩), .pointer (some ⟨p7, 0, none⟩)] w fun en w' => en = .returned (.bool (withinB t d e.2.1)) ∧ But w none w' := by
  refine calls_post fun Q HQ0 => ?_
  have mixed : Tryz.prog.follows .mixedOrders = true := by kernel_rfl
  have b1 : But w none (w.alloc (.cells #[.string e.1, .int .i64 e.2.1] 84)) := but_alloc _ _ _
  have hR := hrec _ (h.move b1)
  obtain ⟨x4, _, _⟩ := box1 h4
  obtain ⟨x5, _, _⟩ := box1 h5
  obtain ⟨x7, _, _⟩ := box1 h7
  have hw1 : wrap64 (n + 1) = n + 1 := wrap64_in _ (by omega)
  obtain ⟨W, hW⟩ : ∃ W, withinB t d e.2.1 = W := ⟨_, rfl⟩
  rw [hW] at hR HQ0
  have HR := hid hR
  have HQ := hid HQ0
  have HB := hid b1
  clear hR HQ0 hrec h hW b1 h4 h5 h7
  go_enter Tryz.func76, Tryz.ntmps76
  go_wp2_with fail
  refine HR.out.mono ?_
  rintro _ wa ⟨rfl, ba⟩
  have HB2 := hid (HB.out.trans ba)
  clear ba hw1
  go_wp2_with fail
  exact HQ.out _ _ ⟨rfl, HB2.out⟩
theorem within_step {w0 w : World} {b : Nat} {ad : Addr} {c : Nat} {t : List Node} {own : Bool} (h : WK w0 w b ad c t own) (hft : fitT t) {d : Int} (hkd : kindT t d = 2) {k : Nat} (hk : k < 9) {n : Int} (hn0 : 0 ≤ n) (hn : n ≤ 9) (hd : ¬ d = (k : Int) + 1) (hf : (nodeT t ((k : Int) + 1)).1 = 2)
    (hrec : ∀ e ∈ namesT t ((k : Int) + 1), ∀ w1, WK w0 w1 b ad c t own → Calls Tryz.prog 48 #[.pointer (some ⟨b, 0, none⟩), .int .i64 d, .int .i64 e.2.1, .int .i64 (n + 1)] w1 fun en w' => en = .returned (.bool (withinB t d e.2.1)) ∧ But w1 none w') :
    Calls Tryz.prog 48 #[.pointer (some ⟨b, 0, none⟩), .int .i64 d, .int .i64 ((k : Int) + 1), .int .i64 n] w fun en w' => en = .returned (.bool (withinB t d ((k : Int) + 1))) ∧ But w none w' := by
  refine calls_post fun Q HQ0 => ?_
  have mixed : Tryz.prog.follows .mixedOrders = true := by kernel_rfl
  have h9 := h.2.2.1
  have hmf : ∀ (fn : Fn) (first cap : Array Value) (w : World), (Instr.makeFunc fn first cap).run Tryz.prog w = .ok (.func fn first cap) w := fun _ _ _ _ => rfl
  have b1 : But w none (w.alloc (.cells #[.pointer (some ⟨b, 0, none⟩)] 61)) := but_alloc _ _ _
  have b2 : But w none ((w.alloc (.cells #[.pointer (some ⟨b, 0, none⟩)] 61)).alloc (.cells #[.int .i64 d] 3)) := b1.trans (but_alloc _ _ _)
  have b3 : But w none (((w.alloc (.cells #[.pointer (some ⟨b, 0, none⟩)] 61)).alloc (.cells #[.int .i64 d] 3)).alloc (.cells #[.int .i64 n] 3)) := b2.trans (but_alloc _ _ _)
  have e4 : (((w.alloc (.cells #[.pointer (some ⟨b, 0, none⟩)] 61)).alloc (.cells #[.int .i64 d] 3)).alloc (.cells #[.int .i64 n] 3)).heap[w.heap.size]? = some (.cells #[.pointer (some ⟨b, 0, none⟩)] 61) := but_box (but_box (MapKept.heap_alloc w _).1 (but_alloc _ _ none)) (but_alloc _ _ none)
  have e5 : (((w.alloc (.cells #[.pointer (some ⟨b, 0, none⟩)] 61)).alloc (.cells #[.int .i64 d] 3)).alloc (.cells #[.int .i64 n] 3)).heap[w.heap.size + 1]? = some (.cells #[.int .i64 d] 3) := by
    refine but_box ?_ (but_alloc _ _ none)
    have := (MapKept.heap_alloc (w.alloc (.cells #[.pointer (some ⟨b, 0, none⟩)] 61)) (.cells #[.int .i64 d] 3)).1
    rwa [size_alloc] at this
  have e7 : (((w.alloc (.cells #[.pointer (some ⟨b, 0, none⟩)] 61)).alloc (.cells #[.int .i64 d] 3)).alloc (.cells #[.int .i64 n] 3)).heap[w.heap.size + 1 + 1]? = some (.cells #[.int .i64 n] 3) := by
    have := (MapKept.heap_alloc ((w.alloc (.cells #[.pointer (some ⟨b, 0, none⟩)] 61)).alloc (.cells #[.int .i64 d] 3)) (.cells #[.int .i64 n] 3)).1
    rwa [size_alloc, size_alloc] at this
  have h3 := h.move b3
  obtain ⟨ab, ao, rfl, n0, nb, n1, n2, n3, n4, n5, n6⟩ := h3.node hk
  have hany := within_any h9 (d := d) hkd hd
  have hnm := names_in (t := t) (i := (k : Int) + 1) (by omega) (by omega) hf
  have hll := namesT_len t ((k : Int) + 1)
  rw [← hany] at HQ0
  have HQ := hid HQ0
  have HB := hid b3
  have HN := hid hnm
  have HREC := hid hrec
  have HLL := hid hll
  have H0 := hid hn0
  have H1 := hid hn
  have E4 := hid e4
  have E5 := hid e5
  have E7 := hid e7
  have hn2 : ¬ 9 < n := by omega
  have hd2 : (d == (k : Int) + 1) = false := beq_false_of_ne hd
  have hen := enter_of Tryz.func76 (by kernel_rfl) (by kernel_rfl)
  rw [hf] at n1
  clear h HQ0 b1 b2 b3 hn hn0 hd hf hany hnm hrec hkd hll e4 e5 e7
  go_enter Tryz.func48, Tryz.ntmps48
  go_wp2_with fail
  refine (node_calls h3 hk).mono ?_
  rintro _ wa ⟨rfl, rfl⟩
  go_wp2_with fail
  refine (entries_calls h3 hft hk).mono ?_
  rintro _ wb ⟨v, rfl, ⟨R', hv⟩, bb⟩
  have hs : SaysE 76 #[.pointer (some ⟨w.heap.size, 0, none⟩), .pointer (some ⟨w.heap.size + 1, 0, none⟩), .pointer (some ⟨w.heap.size + 1 + 1, 0, none⟩)] (fun e => withinB t d e.2.1) (namesT t ((k : Int) + 1)) wb := fun e he w1 bw =>
    within1_calls ((h3.move bb).move bw) H0.out H1.out (but_box (but_box E4.out bb) bw) (but_box (but_box E5.out bb) bw) (but_box (but_box E7.out bb) bw) (fun w2 hw2 => HREC.out e he w2 hw2)
  rw [← HN.out] at hv
  have HV := hid hv
  have HS := hid hs
  have HBB := hid bb
  clear hv hs bb
  go_wp2_with fail
  refine (contains_calls hen (by have := HLL.out; omega) HV.out HS.out).mono ?_
  rintro _ wd ⟨rfl, bd⟩
  have HBD := hid bd
  clear bd
  go_wp2_with fail
  exact HQ.out _ _ ⟨rfl, (HB.out.trans HBB.out).trans HBD.out⟩
theorem within_calls {w0 : World} {b : Nat} {ad : Addr} {c : Nat} {t : List Node} {own : Bool} (hft : fitT t) {d : Int} (hkd : kindT t d = 2) : ∀ (m : Nat) {w : World} {k : Nat} {n : Int}, WK w0 w b ad c t own → k < 9 → 0 ≤ n → n + m ≤ 10 → Deep t m ((k : Int) + 1) →
    Calls Tryz.prog 48 #[.pointer (some ⟨b, 0, none⟩), .int .i64 d, .int .i64 ((k : Int) + 1), .int .i64 n] w fun en w' => en = .returned (.bool (withinB t d ((k : Int) + 1))) ∧ But w none w'
  | 0, _, _, _, _, _, _, _, h => h.elim
  | m + 1, w, k, n, h, hk, hn0, hn, hdp => by
    have h9 := h.2.2.1
    by_cases hd : d = (k : Int) + 1
    · refine (within_flat h hk (n := n) (.inl hd)).mono ?_
      rintro en w' ⟨rfl, hb⟩
      refine ⟨?_, hb⟩
      rw [← hd, withinB_yes .here]; simp
    by_cases hf : (nodeT t ((k : Int) + 1)).1 = 2
    · refine within_step h hft hkd hk hn0 (by omega) hd hf fun e he w1 hw1 => ?_
      have hr := (okE_out (namesT_ok he)).2
      obtain ⟨j, hj⟩ : ∃ j : Nat, e.2.1 = (j : Int) + 1 := ⟨(e.2.1 - 1).toNat, by omega⟩
      rw [hj]
      by_cases hke : kindT t ((j : Int) + 1) = 2
      · exact within_calls hft hkd m hw1 (by omega) (by omega) (by omega) (by rw [← hj]; exact hdp e he (by omega) (by rw [hj]; exact hke))
      · refine (within_flat hw1 (by omega) (n := n + 1) (.inr hke)).mono ?_
        rintro en w' ⟨rfl, hb⟩
        refine ⟨?_, hb⟩
        have hne : ¬ d = (j : Int) + 1 := fun e => hke (by rw [← e]; exact hkd)
        rw [withinB_no (fun hw => hne (no_names (names_file hke) hw)), beq_false_of_ne hne]
    · refine (within_flat h hk (n := n) (.inr hf)).mono ?_
      rintro en w' ⟨rfl, hb⟩
      refine ⟨?_, hb⟩
      rw [withinB_no (fun hw => hd (no_names (names_file hf) hw)), beq_false_of_ne hd]
end Go.Proofs.YtodkmhamaahjmaaGreatDoor
