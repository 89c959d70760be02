/- slices.Insert of one entry, walked on the machine. -/
import Derived.Test.YtodkmhamaahjmaaGreatDoorDirDel
import Derived.Lib.Overlaps
set_option maxRecDepth 100000
set_option linter.unusedSimpArgs false
set_option linter.unusedVariables false
set_option pp.deepTerms.threshold 20
namespace Go.Proofs.YtodkmhamaahjmaaGreatDoor
open Go.Tm Go.RowKit
theorem firstC {P : Program} {w : World} {b off : Nat} {cs new : List Value} (h : lies w ⟨b, off, none⟩ cs) (o k sz : Nat) {L c : Nat} (hnew : new = (cs.drop o).take (k * sz)) (hl : new.length = k * sz) :
    (Builtin.firstCells sz k (.slice (some ⟨b, off + o, none⟩) L c)).run P w = .ok new.toArray w :=
  run_firstCells_some _ _ _ _ _ _ _ hl (fun j v hv => by
    have hj : j < k * sz := by
      rcases Nat.lt_or_ge j new.length with h | h
      · rwa [hl] at h
      · rw [List.getElem?_eq_none h] at hv; cases hv
    rw [hnew, List.getElem?_take, if_pos hj, List.getElem?_drop] at hv
    have := h _ v hv
    simp only [Addr.add_lit] at this ⊢
    rw [← this, Nat.add_assoc])
theorem rowSl (P : Program) (w : World) (b off n c : Nat) : (Builtin.lenOf (.slice (some ⟨b, off, none⟩) n c)).run P w = .ok n w := by simp [Builtin.lenOf]
abbrev EntTy : Ty := .prod .str (.prod (.int .i64) .unit)
set_option maxHeartbeats 4000000 in
/-- At the end. -/
theorem ins_end (A : Option Addr) (n c vb vo vc : Nat) (cs vs : List Value) (w : World) (hnc : n ≤ c) (hc : c ≤ maxLen) (hn : n ≤ 1000000000000) (hm : (A = none ∧ c = 0) ∨ ∃ ad, A = some ad ∧ Mem w ad (c * 2) cs) (hl : cs.length = n * 2)
    (hv : lies w ⟨vb, vo, none⟩ vs) (hvl : vs.length = 2) (hv1 : ∀ v ∈ vs, v.oneCell' = true) :
    Calls Tryz.prog 90 #[.slice A n c, .int .i64 (n : Int), .slice (some ⟨vb, vo, none⟩) 1 vc] w fun e w' =>
      ∃ A' c', e = .returned (.slice A' (n + 1) c') ∧ n + 1 ≤ c' ∧ c' ≤ maxLen ∧ ((A' = none ∧ c' = 0) ∨ ∃ ad, A' = some ad ∧ Mem w' ad (c' * 2) (cs ++ vs)) ∧ But w A w' ∧ (A' = A ∨ ∃ ad, A' = some ad ∧ ad.block = w.heap.size) := by
  have hc63 : c ≤ 9223372036854775807 := hc
  have z23 := Tryz.underlying79
  have u23 := run_underlying Tryz.underlying79
  have hsz := entSz
  have hvf : ∀ w1 : World, w1.heap = w.heap → (Builtin.firstCells 2 1 (.slice (some ⟨vb, vo, none⟩) 1 vc)).run Tryz.prog w1 = .ok vs.toArray w1 := fun w1 h1 =>
    firstC (o := 0) (lies_move (by rw [h1]) hv) 1 2 (by rw [List.drop_zero, List.take_of_length_le (by omega)]) hvl
  obtain ⟨A', c', W1, r1, k1, k2, k3, k4, k5⟩ := tm_append (P := Tryz.prog) tab_ok (t := 79) (t2 := 79) (ty2 := 79) (u := EntTy) (bytes := 24) z23 (by rfl) (by decide) z23 (.inr ⟨_, rfl⟩) (w := w) (A := A) (n := n) (c := c) (cs := cs) hl hnc hc hm (m := 1) (rowSl _ _ _ _ _ _) hvf hvl hv1 (by omega) (by unfold maxLen; omega)
  have hb1 : (n : Int) ≤ (n : Int) := Int.le_refl _
  go_enter Tryz.func90, Tryz.ntmps90
  cases A with
  | none =>
    go_wp2_with (at_builtin; refine wpList_plain rfl fun _ hK => wp_app2 _ _ 79 79 rfl _ _ rfl rfl _ _ r1 (hK _ _ ?_))
    go_ret
    exact ⟨A', c', rfl, k1, k2, k3, k4, k5⟩
  | some a =>
    go_wp2_with (at_builtin; refine wpList_plain rfl fun _ hK => wp_app2 _ _ 79 79 rfl _ _ rfl rfl _ _ r1 (hK _ _ ?_))
    all_goals (go_ret; exact ⟨A', c', rfl, k1, k2, k3, k4, k5⟩)
theorem But.heap_lt {w w' : World} {A : Option Addr} (h : But w A w') {b : Nat} (hb : b < w.heap.size) (hA : ∀ ad, A = some ad → ad.block ≠ b) : w'.heap[b]? = w.heap[b]? := h.block b hb hA
/-- What turns a block that was not there leaves all that was there. -/
theorem But.ofNew {w w1 w' : World} {b : Nat} (h : But w none w1) (k : But w1 (some ⟨b, 0, none⟩) w') (hb : w.heap.size ≤ b) : But w none w' :=
  ⟨k.os.trans h.os, k.tape.trans h.tape, k.output.trans h.output, Nat.le_trans h.size k.size, fun x hx _ =>
    (k.block x (Nat.lt_of_lt_of_le hx h.size) (fun ad e => by injection e with e; subst e; show b ≠ x; omega)).trans (h.block x hx (fun _ e => by cases e))⟩
theorem But.ofDrew {w w' : World} {A : Option Addr} (h : But w.drew A w') : But w A w' := ⟨h.os, h.tape, h.output, h.size, h.block⟩
theorem ovr_rest {cs vs zs es : List Value} {i n : Nat} (he : es = cs.take (i * 2) ++ vs ++ zs.drop 2) (ht : (cs.take (i * 2)).length = i * 2) (hv : vs.length = 2) (hl : (zs.drop 2).length = (cs.drop (i * 2)).length) :
    ovr es ((i + 1) * 2) (cs.drop (i * 2)) = cs.take (i * 2) ++ vs ++ cs.drop (i * 2) := by
  have h1 : (cs.take (i * 2) ++ vs).length = (i + 1) * 2 := by rw [List.length_append, ht, hv]; omega
  unfold ovr
  have h2 : es.length = (i + 1) * 2 + (cs.drop (i * 2)).length := by rw [he, List.length_append, h1, hl]
  have h3 : es.drop ((i + 1) * 2 + (cs.drop (i * 2)).length) = [] := List.drop_eq_nil_of_le (by omega)
  rw [h3, List.append_nil, he, List.take_left' h1]
set_option maxHeartbeats 4000000 in
/-- In the midst, where there is no room. -/
theorem ins_grow (b off n i vb vo vc : Nat) (cs vs : List Value) (w : World) (hi : i < n) (hn : n ≤ 1000000000000) (hm : Mem w ⟨b, off, none⟩ (n * 2) cs) (hl : cs.length = n * 2) (h1 : ∀ v ∈ cs, v.oneCell' = true)
    (hv : lies w ⟨vb, vo, none⟩ vs) (hvb : vb < w.heap.size) (hvl : vs.length = 2) (hv1 : ∀ v ∈ vs, v.oneCell' = true) :
    Calls Tryz.prog 90 #[.slice (some ⟨b, off, none⟩) n n, .int .i64 (i : Int), .slice (some ⟨vb, vo, none⟩) 1 vc] w fun e w' =>
      ∃ c', e = .returned (.slice (some ⟨w.heap.size, 0, none⟩) (n + 1) c') ∧ n + 1 ≤ c' ∧ c' ≤ maxLen ∧ Mem w' ⟨w.heap.size, 0, none⟩ (c' * 2) (cs.take (i * 2) ++ vs ++ cs.drop (i * 2)) ∧ But w none w' := by
  have z23 := Tryz.underlying79
  have u23 := run_underlying Tryz.underlying79
  have zi : Tryz.prog.underlying 3 = some (.int .i64) := Tryz.underlying3
  have hsz := entSz
  have mixed : Tryz.prog.follows .mixedOrders = true := by kernel_rfl
  have hbl := hm.block_lt
  have hbl : b < w.heap.size := hbl
  obtain ⟨m, hmn⟩ : ∃ m, n + 1 - i = m := ⟨_, rfl⟩
  have him : i + m = n + 1 := by omega
  -- the new row
  obtain ⟨c1, W1, r1, k1, k2, k3, k4⟩ := tm_growZ (P := Tryz.prog) tab_ok (t := 79) (t2 := 3) (ty2 := 79) (u := EntTy) (bytes := 24) z23 (by rfl) (by decide) zi (w := w) (A := some ⟨b, off, none⟩) (n := i) (c := n) (cs := cs.take (i * 2)) (by rw [List.length_take, hl]; show _ = i * 2; omega) (by omega) (by unfold maxLen; omega) (.inr ⟨_, rfl, hm.cut (i * 2)⟩) (m := m) (by omega) (by unfold maxLen; omega) (by omega)
  rw [him] at r1 k1
  obtain ⟨zs, hzs⟩ : ∃ zs, zs = (List.replicate m EntTy.zeroV).flatten := ⟨_, rfl⟩
  have hzl : zs.length = m * 2 := by rw [hzs]; exact repl_len EntTy m
  rw [← hzs] at k3
  have k3 : Mem W1 ⟨w.heap.size, 0, none⟩ (c1 * 2) (cs.take (i * 2) ++ zs) := k3
  have hW1l : (cs.take (i * 2) ++ zs).length = (n + 1) * 2 := by rw [List.length_append, List.length_take, hl, hzl]; omega
  -- the entry
  have hv2 : lies W1 ⟨vb, vo, none⟩ vs := lies_move (k4.block vb hvb (fun _ h => by cases h)) hv
  obtain ⟨W2, r2, q2, q3⟩ := tm_copy (P := Tryz.prog) (t := 79) (t2 := 79) (ty2 := 3) z23 hsz k3 (i * 2) (L := m) (c := c1 - i) (m := 1) (k := 1) (x := .slice (some ⟨vb, vo, none⟩) 1 vc) (new := vs) (by omega) (rowSl _ _ _ _ _ _)
    (firstC (o := 0) hv2 1 2 (by rw [List.drop_zero, List.take_of_length_le (by omega)]) hvl) hv1 (by omega) (by omega)
  rw [Addr.add_lit, Nat.zero_add] at r2
  -- the rest
  obtain ⟨es, hes⟩ : ∃ es, es = ovr (cs.take (i * 2) ++ zs) (i * 2) vs := ⟨_, rfl⟩
  have htk : (cs.take (i * 2)).length = i * 2 := by rw [List.length_take, hl]; omega
  have hes2 : es = cs.take (i * 2) ++ vs ++ zs.drop 2 := by
    rw [hes]
    unfold ovr
    rw [List.take_left' htk, hvl, List.drop_append, htk, List.drop_eq_nil_of_le (by omega), List.nil_append, show i * 2 + 2 - i * 2 = 2 by omega]
  have hel : es.length = (n + 1) * 2 := by rw [hes2, List.length_append, List.length_append, htk, hvl, List.length_drop, hzl]; omega
  rw [← hes] at q2
  have q2 : Mem W2.drew ⟨w.heap.size, 0, none⟩ (c1 * 2) es := q2.move rfl
  have hcs2 : lies W2.drew ⟨b, off, none⟩ cs := lies_move (show W2.heap[b]? = w.heap[b]? from (q3.block b (Nat.lt_of_lt_of_le hbl k4.size) (fun ad h => by injection h with h; subst h; show w.heap.size ≠ b; omega)).trans (k4.block b hbl (fun _ h => by cases h))) hm.lies
  obtain ⟨W3, r3, p2, p3⟩ := tm_copy (P := Tryz.prog) (t := 79) (t2 := 79) (ty2 := 3) z23 hsz q2 ((i + 1) * 2) (L := n + 1 - (i + 1)) (c := c1 - (i + 1)) (m := n - i) (k := n - i) (x := .slice (some ⟨b, off + i * 2, none⟩) (n - i) (n - i)) (new := cs.drop (i * 2)) (by omega) (rowSl _ _ _ _ _ _)
    (firstC (o := i * 2) hcs2 (n - i) 2 (by rw [List.take_of_length_le (by rw [List.length_drop, hl]; omega)]) (by rw [List.length_drop, hl]; omega)) (fun v hv => h1 v (List.mem_of_mem_drop hv)) (by omega) (by rw [List.length_drop, hl]; omega)
  rw [Addr.add_lit, Nat.zero_add] at r3
  have hb1 : ¬ ((i : Int) = (n : Int)) := by omega
  have hb2 : i ≤ n := by omega
  have hb3 : ¬ (n = i) := by omega
  have hb4 : ¬ (c1 = i) := by omega
  have hb5 : ¬ (c1 = i + 1) := by omega
  have hw1 : IntKind.i64.wrap ((n : Int) + 1) = (n : Int) + 1 := by rw [IntKind.wrap_i64]; omega
  have hw2 : IntKind.i64.wrap ((n : Int) + 1 - (i : Int)) = (m : Int) := by rw [IntKind.wrap_i64]; omega
  have hw3 : IntKind.i64.wrap ((i : Int) + 1) = (i : Int) + 1 := by rw [IntKind.wrap_i64]; omega
  have hb6 : (i : Int) ≤ (n : Int) + 1 := by omega
  have hb7 : (0 : Int) ≤ (i : Int) + 1 := by omega
  have htn : ((i : Int) + 1).toNat = i + 1 := by omega
  have hb8 : (n : Int) < (n : Int) + 1 := by omega
  clear hes
  go_enter Tryz.func90, Tryz.ntmps90
  go_wp2_with (first | (at_builtin; refine wpList_plain rfl fun _ hK => wp_app2 _ _ 79 3 rfl _ _ rfl rfl _ _ r1 (hK _ _ ?_)) | (at_builtin; refine wpList_plain rfl fun _ hK => wp_copy2 _ _ 79 79 rfl _ _ rfl rfl _ _ r2 (hK _ _ ?_)))
  go_region_law_o ((rw [if_pos (wanted_plain rfl)]); refine wp_copy2 _ _ 79 79 rfl _ _ (by simp [Act.eval, Act.put]) (by simp [Act.eval, Act.put]) _ _ r3 ?_)
  go_wp2
  go_ret
  refine ⟨c1, rfl, k1, k2, ?_, ?_⟩
  · rw [ovr_rest (n := n) hes2 htk hvl (by rw [List.length_drop, List.length_drop, hl, hzl]; omega)] at p2
    exact p2
  · exact But.ofNew (But.ofNew k4 q3 (Nat.le_refl _)) (But.ofDrew p3) (Nat.le_refl _)
set_option maxHeartbeats 4000000 in
/-- In the midst, where there is room. -/
theorem ins_room (b off n c i vb vo vc : Nat) (cs vs : List Value) (w : World) (hi : i < n) (hnc : n + 1 ≤ c) (hc : c ≤ maxLen) (hm : Mem w ⟨b, off, none⟩ (c * 2) cs) (hl : cs.length = n * 2) (h1 : ∀ v ∈ cs, v.oneCell' = true)
    (hv : lies w ⟨vb, vo, none⟩ vs) (hvb : vb ≠ b) (hvl : vs.length = 2) (hv1 : ∀ v ∈ vs, v.oneCell' = true) (tA : TypeId) (kA : Nat) (hsa : w.shape? vb = some (tA, kA)) (hfa : ∀ o, w.frozen? ⟨vb, o, none⟩ = false) :
    Calls Tryz.prog 90 #[.slice (some ⟨b, off, none⟩) n c, .int .i64 (i : Int), .slice (some ⟨vb, vo, none⟩) 1 vc] w fun e w' =>
      e = .returned (.slice (some ⟨b, off, none⟩) (n + 1) c) ∧ Mem w' ⟨b, off, none⟩ (c * 2) (cs.take (i * 2) ++ vs ++ cs.drop (i * 2)) ∧ But w (some ⟨b, off, none⟩) w' := by
  have hc63 : c ≤ 9223372036854775807 := hc
  have z23 := Tryz.underlying79
  have u23 := run_underlying Tryz.underlying79
  have hsz := entSz
  have mixed : Tryz.prog.follows .mixedOrders = true := by kernel_rfl
  have hbl : b < w.heap.size := hm.block_lt
  have hsb : ∃ tB kB, w.shape? b = some (tB, kB) ∧ kB ≠ 0 := by
    obtain ⟨_, row, e, fz, m2, m3, _⟩ := hm.out
    exact ⟨e, row.size, by simp only [World.shape?]; rw [m2], by simp only at m3; omega⟩
  obtain ⟨tB, kB, hsb, hkB⟩ := hsb
  have hvlt : vb < w.heap.size := by
    rcases Nat.lt_or_ge vb w.heap.size with h | h
    · exact h
    · rw [World.shape?, Array.getElem?_eq_none h] at hsa; cases hsa
  have hov : ∀ A lb cb, A.block = b → (callFunc 106 #[.slice (some ⟨vb, vo, none⟩) 1 vc, .slice (some A) lb cb]).run Tryz.prog w = .ok (.value (.bool false)) w := fun A lb cb hA => by
    rw [run_callFunc_extern Tryz.func106 (by kernel_rfl) (by kernel_rfl) (by kernel_rfl) (e := Extern.SlicesOverlaps.overlaps #[79, 79] #[4]) (by kernel_rfl),
      Lib.run_overlaps_apart w 79 4 84 z23 2 hsz ⟨vb, vo, none⟩ A 1 vc lb cb (by rw [hA]; exact hvb) tA tB kA kB hsa (by rw [hA]; exact hsb) hkB (hfa _) (hfa _)]
    rfl
  -- up
  obtain ⟨es, hes⟩ : ∃ es, es = ovr cs ((i + 1) * 2) (cs.drop (i * 2)) := ⟨_, rfl⟩
  have hdl : (cs.drop (i * 2)).length = (n - i) * 2 := by rw [List.length_drop, hl]; omega
  have htk : (cs.take (i * 2)).length = i * 2 := by rw [List.length_take, hl]; omega
  have htk2 : (cs.take ((i + 1) * 2)).length = (i + 1) * 2 := by rw [List.length_take, hl]; omega
  have hes2 : es = cs.take ((i + 1) * 2) ++ cs.drop (i * 2) := by
    rw [hes]
    unfold ovr
    have h3 : cs.drop ((i + 1) * 2 + (cs.drop (i * 2)).length) = [] := List.drop_eq_nil_of_le (by omega)
    rw [h3, List.append_nil]
  have hel : es.length = (n + 1) * 2 := by rw [hes2, List.length_append, htk2, hdl]; omega
  have hmd : Mem w.drew ⟨b, off, none⟩ (c * 2) cs := hm.move rfl
  obtain ⟨W1, r1, q1, q2⟩ := tm_copy (P := Tryz.prog) (t := 79) (t2 := 79) (ty2 := 3) z23 hsz hmd ((i + 1) * 2) (L := n + 1 - (i + 1)) (c := c - (i + 1)) (m := n + 1 - i) (k := n - i) (x := .slice (some ⟨b, off + i * 2, none⟩) (n + 1 - i) (c - i)) (new := cs.drop (i * 2)) (by omega) (rowSl _ _ _ _ _ _)
    (firstC (o := i * 2) hmd.lies (n - i) 2 (by rw [List.take_of_length_le (by rw [hdl]; exact Nat.le_refl _)]) hdl) (fun v hv => h1 v (List.mem_of_mem_drop hv)) (by omega) (by rw [hdl]; omega)
  rw [Addr.add_lit] at r1
  rw [← hes] at q1
  have hv2 : lies W1 ⟨vb, vo, none⟩ vs := lies_move (show W1.heap[vb]? = w.heap[vb]? from q2.block vb hvlt (fun ad h => by injection h with h; subst h; exact fun e => hvb e.symm)) hv
  obtain ⟨W2, r2, p1, p2⟩ := tm_copy (P := Tryz.prog) (t := 79) (t2 := 79) (ty2 := 3) z23 hsz q1 (i * 2) (L := n + 1 - i) (c := c - i) (m := 1) (k := 1) (x := .slice (some ⟨vb, vo, none⟩) 1 vc) (new := vs) (by omega) (rowSl _ _ _ _ _ _)
    (firstC (o := 0) hv2 1 2 (by rw [List.drop_zero, List.take_of_length_le (by omega)]) hvl) hv1 (by omega) (by omega)
  rw [Addr.add_lit] at r2
  have hb1 : ¬ ((i : Int) = (n : Int)) := by omega
  have hb2 : i ≤ n := by omega
  have hb4 : ¬ (c = i) := by omega
  have hb5 : ¬ (c = i + 1) := by omega
  have hw1 : IntKind.i64.wrap ((n : Int) + 1) = (n : Int) + 1 := by rw [IntKind.wrap_i64]; omega
  have hw3 : IntKind.i64.wrap ((i : Int) + 1) = (i : Int) + 1 := by rw [IntKind.wrap_i64]; omega
  have hb6 : (i : Int) ≤ (n : Int) + 1 := by omega
  have hb7 : (0 : Int) ≤ (i : Int) + 1 := by omega
  have htn : ((i : Int) + 1).toNat = i + 1 := by omega
  have htn2 : ((n : Int) + 1).toNat = n + 1 := by omega
  have hb8 : ¬ ((c : Int) < (n : Int) + 1) := by omega
  have hb9 : (n : Int) + 1 ≤ (c : Int) := by omega
  have hb10 : (0 : Int) ≤ (n : Int) + 1 := by omega
  have hb11 : (i : Int) + 1 ≤ (n : Int) + 1 := by omega
  have hb12 : i ≤ c := by omega
  clear hes
  go_enter Tryz.func90, Tryz.ntmps90
  go_wp2_with (simp only [hov])
  go_region_law_o ((rw [if_pos (wanted_plain rfl)]); refine wp_copy2 _ _ 79 79 rfl _ _ (by simp [Act.eval, Act.put]) (by simp [Act.eval, Act.put]) _ _ r1 ?_)
  go_wp2_with (at_builtin; refine wpList_plain rfl fun _ hK => wp_copy2 _ _ 79 79 rfl _ _ rfl rfl _ _ r2 (hK _ _ ?_))
  go_ret
  refine ⟨rfl, ?_, ?_⟩
  · have h4 : ovr es (i * 2) vs = cs.take (i * 2) ++ vs ++ cs.drop (i * 2) := by
      unfold ovr
      rw [hes2, hvl, List.take_append_of_le_length (by omega), List.take_take, show min (i * 2) ((i + 1) * 2) = i * 2 by omega, List.drop_left' (by rw [htk2]; omega)]
    rw [h4] at p1
    exact p1
  · exact ⟨p2.os.trans q2.os, p2.tape.trans q2.tape, p2.output.trans q2.output, Nat.le_trans q2.size p2.size, fun x hx hy => (p2.block x (Nat.lt_of_lt_of_le hx q2.size) hy).trans (q2.block x hx hy)⟩
end Go.Proofs.YtodkmhamaahjmaaGreatDoor
