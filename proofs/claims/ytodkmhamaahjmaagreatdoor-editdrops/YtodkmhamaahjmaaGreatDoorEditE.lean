/- edit: put, cut: on the machine. -/
import Derived.Test.YtodkmhamaahjmaaGreatDoorG7
set_option maxRecDepth 100000
set_option maxHeartbeats 4000000
set_option linter.unusedSimpArgs false
set_option linter.unusedVariables false
set_option pp.deepTerms.threshold 20
namespace Go.Proofs.YtodkmhamaahjmaaGreatDoor
open Go.Tm Go.IntWalk Go.RowKit
theorem insD_len' (e : Ent) (l : List Ent) : (insD e l).length = l.length + 1 := by
  induction l with
  | nil => rfl
  | cons x r ih =>
    unfold insD
    split
    · rfl
    · rw [List.length_cons, ih]; rfl
theorem withD_len' (l : List Ent) (e : Ent) : (withD l e).1.length ≤ l.length + 1 := by
  unfold withD
  split
  · exact Nat.le_succ _
  · rw [insD_len']; exact Nat.le_refl _
theorem lessD_len' (l : List Ent) (nm : ByteArray) : (lessD l nm).1.length ≤ l.length := by
  unfold lessD
  split
  · exact List.length_filter_le _ _
  · exact Nat.le_refl _
theorem nodeT_at {t : List Node} {k : Nat} (hk : k < t.length) : nodeT t ((k : Int) + 1) = t[k] := by
  unfold nodeT
  rw [show ((k : Int) + 1 - 1).toNat = k by omega, List.getD_eq_getElem?_getD, List.getElem?_eq_getElem hk]; rfl
theorem WK.body {w0 w : World} {b : Nat} {ab ao : Nat} {c : Nat} {t : List Node} {own : Bool} (h : WK w0 w b ⟨ab, ao, none⟩ c t own) {k : Nat} (hk : k < 9) (s : ByteArray) :
    WK w0 (w.setCell ⟨ab, ao + k * 3 + 2, none⟩ (.string s)) b ⟨ab, ao, none⟩ c (setT t ((k : Int) + 1) (withBody (nodeT t ((k : Int) + 1)) s)) own ∧ But w (some ⟨ab, ao, none⟩) (w.setCell ⟨ab, ao + k * 3 + 2, none⟩ (.string s)) := by
  obtain ⟨h1, ⟨h2, h3, h4, h5, h6, h7⟩, h9, hn, hb⟩ := h
  have hkt : k < t.length := by omega
  have et : setT t ((k : Int) + 1) (withBody (nodeT t ((k : Int) + 1)) s) = t.set k ((t[k]).1, (t[k]).2.1, s, ()) := by
    rw [nodeT_at hkt, setT, show ((k : Int) + 1 - 1).toNat = k by omega]; rfl
  rw [et]
  refine ⟨⟨box_ne _ _ h1 (fun e => hn e.symm), ⟨by rw [List.length_set]; exact h2, h3, cellsT_len _, ?_, fun w R => cellsT_rep _, .inr ?_⟩, by rw [List.length_set]; exact h9, hn, hb⟩, but_set (But.refl _ _) _⟩
  · exact rep_cells (w := w) (R := fun _ => True) (.arr _ NodeT) (x := t.set k ((t[k]).1, (t[k]).2.1, s, ())) ⟨rfl, cellsT_rep _⟩
  · rcases h7 with ⟨h7, _⟩ | ⟨ad', e, hm, hg⟩
    · cases h7
    injection e with e; subst e
    have hl : (cellsT t).length = 27 := by rw [cellsT_len, h9]
    have hc : k * 3 + 2 < c * NodeT.sz := by show _ < c * 3; omega
    have m1 := mem_set hm (k * 3 + 2) (.string s) (by omega) hc rfl
    rw [ovr_set (by omega), cellsT_set2 hkt, ← Nat.add_assoc] at m1
    exact ⟨_, rfl, m1, hg⟩
theorem but_any {w w1 : World} {A : Option Addr} (h : But w none w1) : But w A w1 := ⟨h.os, h.tape, h.output, h.size, fun x hx _ => h.block x hx (fun _ e => by cases e)⟩
theorem wput_ok {w0 w : World} {b : Nat} {ab ao : Nat} {c : Nat} {t : List Node} {own : Bool} (h : WK w0 w b ⟨ab, ao, none⟩ c t own) (hf : fitT t) {k : Nat} (hk : k < 9) (nm : ByteArray) (i : Int) (hnm : nm.size ≤ 4000000000)
    (hp : (putD (withD (takeD (bodyT t ((k : Int) + 1))).1 (nm, i, ())).1).2 = true) :
    Calls Tryz.prog 38 #[.pointer (some ⟨b, 0, none⟩), .agg #[.int .i64 ((k : Int) + 1), .string nm], .int .i64 i] w fun en w' => en = .returned (.tuple #[]) ∧
      WK w0 w' b ⟨ab, ao, none⟩ c (setT t ((k : Int) + 1) (withBody (nodeT t ((k : Int) + 1)) (putD (withD (takeD (bodyT t ((k : Int) + 1))).1 (nm, i, ())).1).1)) own ∧ But w (some ⟨ab, ao, none⟩) w' := by
  have mixed : Tryz.prog.follows .mixedOrders = true := by kernel_rfl
  have bw0 : But w none (w.alloc (.cells #[.int .i64 ((k : Int) + 1), .string nm] 65)).drew := (but_alloc _ _ _).trans (but_drew _ _)
  have eb0 : (w.alloc (.cells #[.int .i64 ((k : Int) + 1), .string nm] 65)).drew.heap[w.heap.size]? = some (.cells #[.int .i64 ((k : Int) + 1), .string nm] 65) := (MapKept.heap_alloc w _).1
  have h1 := h.move bw0
  have hab := freshp_lt h.2.1 rfl
  clear h
  have hr := takeD_rises (bodyT t ((k : Int) + 1))
  have hl0 := takeD_len (bodyT t ((k : Int) + 1))
  have hl : (takeD (bodyT t ((k : Int) + 1))).1.length ≤ 1000000000 := Nat.le_trans hl0 (by decide)
  have hl2 : (withD (takeD (bodyT t ((k : Int) + 1))).1 (nm, i, ())).1.length ≤ 1000000000000 := Nat.le_trans (withD_len' _ _) (Nat.le_trans (Nat.succ_le_succ hl0) (by decide))
  have hsz : ∀ x ∈ (withD (takeD (bodyT t ((k : Int) + 1))).1 (nm, i, ())).1, x.1.size ≤ 4000000000 := fun x hx => by
    rcases withD_mem hx with rfl | hx
    · exact hnm
    · have := (ownS_size (okE_out (takeD_mem hx)).1).2; omega
  go_enter Tryz.func38, Tryz.ntmps38
  go_wp2_with fail
  go_region_with (first | (go_at_call 65; refine (entries_calls h1 hf hk).mono ?_; rintro _ wa ⟨va, rfl, ⟨R', hva⟩, ba⟩; obtain ⟨x0, x1, x2⟩ := box2 (but_box eb0 ba)) | (go_at_call 68; refine (withD_calls _ (nm, i, ()) hr hl hva).mono ?_; rintro _ wb ⟨vb, rfl, ⟨R2, hvb⟩, bb⟩; obtain ⟨z0, z1, z2⟩ := box2 (but_box (but_box eb0 ba) bb)))
  all_goals go_wp2_with fail
  all_goals
    refine (putD_calls _ hl2 hsz hvb).mono ?_
    rintro _ wc ⟨rfl, bc⟩
    rw [hp]
    obtain ⟨q0, q1, q2⟩ := box2 (but_box (but_box (but_box eb0 ba) bb) bc)
    go_wp2_with fail
    refine (no_no _ _).mono ?_
    rintro _ wd ⟨rfl, rfl⟩
    have h5 := h1.move ((ba.trans bb).trans bc)
    go_wp2_with fail
    refine (node_calls h5 hk).mono ?_
    rintro _ we ⟨rfl, rfl⟩
    obtain ⟨ab', ao', e, n0, nb, n1, n2, n3, n4, n5, n6⟩ := h5.node hk
    injection e with e1 e2 e3; subst e1 e2
    go_wp2_with fail
    go_end0
    obtain ⟨h6, b6⟩ := h5.body hk (putD (withD (takeD (bodyT t ((k : Int) + 1))).1 (nm, i, ())).1).1
    exact ⟨rfl, h6, (but_any (((bw0.trans ba).trans bb).trans bc)).trans b6⟩
theorem wput_no {w0 w : World} {b : Nat} {ab ao : Nat} {c : Nat} {t : List Node} {own : Bool} (h : WK w0 w b ⟨ab, ao, none⟩ c t own) (hf : fitT t) {k : Nat} (hk : k < 9) (nm : ByteArray) (i : Int) (hnm : nm.size ≤ 4000000000)
    (hp : (putD (withD (takeD (bodyT t ((k : Int) + 1))).1 (nm, i, ())).1).2 = false) :
    Calls Tryz.prog 38 #[.pointer (some ⟨b, 0, none⟩), .agg #[.int .i64 ((k : Int) + 1), .string nm], .int .i64 i] w fun en w' => en = UpE 8 ∧ But w none w' := by
  have mixed : Tryz.prog.follows .mixedOrders = true := by kernel_rfl
  have bw0 : But w none (w.alloc (.cells #[.int .i64 ((k : Int) + 1), .string nm] 65)).drew := (but_alloc _ _ _).trans (but_drew _ _)
  have eb0 : (w.alloc (.cells #[.int .i64 ((k : Int) + 1), .string nm] 65)).drew.heap[w.heap.size]? = some (.cells #[.int .i64 ((k : Int) + 1), .string nm] 65) := (MapKept.heap_alloc w _).1
  have h1 := h.move bw0
  have hab := freshp_lt h.2.1 rfl
  clear h
  have hr := takeD_rises (bodyT t ((k : Int) + 1))
  have hl0 := takeD_len (bodyT t ((k : Int) + 1))
  have hl : (takeD (bodyT t ((k : Int) + 1))).1.length ≤ 1000000000 := Nat.le_trans hl0 (by decide)
  have hl2 : (withD (takeD (bodyT t ((k : Int) + 1))).1 (nm, i, ())).1.length ≤ 1000000000000 := Nat.le_trans (withD_len' _ _) (Nat.le_trans (Nat.succ_le_succ hl0) (by decide))
  have hsz : ∀ x ∈ (withD (takeD (bodyT t ((k : Int) + 1))).1 (nm, i, ())).1, x.1.size ≤ 4000000000 := fun x hx => by
    rcases withD_mem hx with rfl | hx
    · exact hnm
    · have := (ownS_size (okE_out (takeD_mem hx)).1).2; omega
  go_enter Tryz.func38, Tryz.ntmps38
  go_wp2_with fail
  go_region_with (first | (go_at_call 65; refine (entries_calls h1 hf hk).mono ?_; rintro _ wa ⟨va, rfl, ⟨R', hva⟩, ba⟩; obtain ⟨x0, x1, x2⟩ := box2 (but_box eb0 ba)) | (go_at_call 68; refine (withD_calls _ (nm, i, ()) hr hl hva).mono ?_; rintro _ wb ⟨vb, rfl, ⟨R2, hvb⟩, bb⟩; obtain ⟨z0, z1, z2⟩ := box2 (but_box (but_box eb0 ba) bb)))
  all_goals go_wp2_with fail
  all_goals
    refine (putD_calls _ hl2 hsz hvb).mono ?_
    rintro _ wc ⟨rfl, bc⟩
    rw [hp]
    obtain ⟨q0, q1, q2⟩ := box2 (but_box (but_box (but_box eb0 ba) bb) bc)
    go_wp2_with fail
    refine (no_yes _ _).mono ?_
    rintro _ wd ⟨rfl, rfl⟩
    exact ⟨rfl, rfl, ((bw0.trans ba).trans bb).trans bc⟩
theorem wcut_ok {w0 w : World} {b : Nat} {ab ao : Nat} {c : Nat} {t : List Node} {own : Bool} (h : WK w0 w b ⟨ab, ao, none⟩ c t own) (hf : fitT t) {k : Nat} (hk : k < 9) (nm : ByteArray) :
    Calls Tryz.prog 49 #[.pointer (some ⟨b, 0, none⟩), .agg #[.int .i64 ((k : Int) + 1), .string nm]] w fun en w' => en = .returned (.tuple #[]) ∧
      WK w0 w' b ⟨ab, ao, none⟩ c (setT t ((k : Int) + 1) (withBody (nodeT t ((k : Int) + 1)) (putD (lessD (takeD (bodyT t ((k : Int) + 1))).1 nm).1).1)) own ∧ But w (some ⟨ab, ao, none⟩) w' := by
  have mixed : Tryz.prog.follows .mixedOrders = true := by kernel_rfl
  have bw0 : But w none (w.alloc (.cells #[.int .i64 ((k : Int) + 1), .string nm] 65)).drew := (but_alloc _ _ _).trans (but_drew _ _)
  have eb0 : (w.alloc (.cells #[.int .i64 ((k : Int) + 1), .string nm] 65)).drew.heap[w.heap.size]? = some (.cells #[.int .i64 ((k : Int) + 1), .string nm] 65) := (MapKept.heap_alloc w _).1
  have h1 := h.move bw0
  have hab := freshp_lt h.2.1 rfl
  clear h
  have hr := takeD_rises (bodyT t ((k : Int) + 1))
  have hl0 := takeD_len (bodyT t ((k : Int) + 1))
  have hl : (takeD (bodyT t ((k : Int) + 1))).1.length ≤ 1000000000000 := Nat.le_trans hl0 (by decide)
  have hl2 : (lessD (takeD (bodyT t ((k : Int) + 1))).1 nm).1.length ≤ 1000000000000 := Nat.le_trans (lessD_len' _ _) (Nat.le_trans hl0 (by decide))
  have hsz : ∀ x ∈ (lessD (takeD (bodyT t ((k : Int) + 1))).1 nm).1, x.1.size ≤ 4000000000 := fun x hx => by
    have := (ownS_size (okE_out (takeD_mem (lessD_mem hx))).1).2; omega
  go_enter Tryz.func49, Tryz.ntmps49
  go_wp2_with fail
  go_region_with (first | (go_at_call 65; refine (entries_calls h1 hf hk).mono ?_; rintro _ wa ⟨va, rfl, ⟨R', hva⟩, ba⟩; obtain ⟨x0, x1, x2⟩ := box2 (but_box eb0 ba)) | (go_at_call 77; refine (lessD_calls _ nm hr hl hva).mono ?_; rintro _ wb ⟨vb, rfl, ⟨R2, hvb⟩, bb⟩; obtain ⟨z0, z1, z2⟩ := box2 (but_box (but_box eb0 ba) bb)))
  all_goals go_wp2_with fail
  all_goals
    have h4 := h1.move (ba.trans bb)
    refine (node_calls h4 hk).mono ?_
    rintro _ we ⟨rfl, rfl⟩
    go_wp2_with fail
    refine (putD_calls _ hl2 hsz hvb).mono ?_
    rintro _ wc ⟨rfl, bc⟩
    have h5 := h4.move bc
    obtain ⟨ab', ao', e, n0, nb, n1, n2, n3, n4, n5, n6⟩ := h5.node hk
    injection e with e1 e2 e3; subst e1 e2
    go_wp2_with fail
    go_end0
    obtain ⟨h6, b6⟩ := h5.body hk (putD (lessD (takeD (bodyT t ((k : Int) + 1))).1 nm).1).1
    exact ⟨rfl, h6, (but_any (((bw0.trans ba).trans bb).trans bc)).trans b6⟩
end Go.Proofs.YtodkmhamaahjmaaGreatDoor
