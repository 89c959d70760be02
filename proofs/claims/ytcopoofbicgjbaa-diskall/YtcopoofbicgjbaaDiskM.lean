/- The reference's New: on the machine. -/
import Derived.Test.YtcopoofbicgjbaaDisk5
set_option maxRecDepth 100000
set_option maxHeartbeats 4000000
set_option linter.unusedSimpArgs false
set_option linter.unusedVariables false
set_option pp.deepTerms.threshold 20
namespace Go.Proofs.Ytcopoofbicgjbaa
open Go.Tm Go.IntWalk Go.RowKit
attribute [-go_sem] Go.Builtin.append_
theorem noughts_calls (w : World) : Calls Try.prog 23 #[] w fun e w' => e = .returned (.string nought64) ∧ But w none w' := by
  have hc : knoughtC [] = some ⟨.val ⟨.str, nought64⟩, []⟩ := knoughtC_eq
  have hrd : Ready w (fun _ => False) [] [] := ⟨rfl, List.nodup_nil, fun b hb => by cases hb⟩
  refine (goes_calls Try.func23 (by kernel_rfl) (by kernel_rfl) (knought_ok _ _ _ _ _ hc hrd)).mono ?_
  rintro e w' ⟨v', rfl, h⟩
  refine ⟨congrArg Ending.returned (vrep_str h.res), kept_but h.kept (fun b hb => by cases hb)⟩
theorem app_str {l : List ByteArray} (x : ByteArray) {w0 wa : World} {A : Option Addr} {c : Nat} {cs : List Value} (h : FreshP w0 wa .str l A c cs) (hd : l.length ≤ 1000) :
    ∃ A' c' w', (Builtin.append_ #[25, 25] 25 #[.slice A l.length c, .slice (some ⟨wa.heap.size, 0, none⟩) 1 1]).run Try.prog (wa.alloc (.cells #[.string x] 9)) = .ok (.slice A' (l.length + 1) c') w' ∧
      l.length + 1 ≤ c' ∧ c' ≤ maxLen ∧ (∃ ad, A' = some ad ∧ Mem w' ad (c' * 1) (cs ++ [.string x])) ∧ But (wa.alloc (.cells #[.string x] 9)) A w' ∧ (A' = A ∨ ∃ ad, A' = some ad ∧ ad.block = wa.heap.size + 1) := by
  obtain ⟨h2, h3, h4, h5, h6, h7⟩ := h
  obtain ⟨A', c', w', r, q1, q2, q3, q4, q5⟩ := tm_append (P := Try.prog) tab_ok (t := 25) (t2 := 25) (ty2 := 25) (u := .str) (bytes := 16) (e := 9) Try.underlying25 (by rfl) (by decide) Try.underlying25 (.inr ⟨_, rfl⟩)
    (w := wa.alloc (.cells #[.string x] 9)) (A := A) (n := l.length) (c := c) (cs := cs) h4 h2 h3
    (by
      rcases h7 with h7 | ⟨ad, e, hm, hg⟩
      · exact .inl h7
      · exact .inr ⟨ad, e, hm.move ((but_alloc _ _ none).block _ hm.block_lt (fun _ h => by cases h))⟩)
    (x := .slice (some ⟨wa.heap.size, 0, none⟩) 1 1) (m := 1) (new := [.string x]) rfl
    (fun w1 hw1 => run_firstCells_some _ _ _ _ _ _ _ rfl (fun j v hv => by
      have hcell : w1.heap[wa.heap.size]? = some (.cells #[.string x] 9) := by rw [hw1]; exact (MapKept.heap_alloc wa _).1
      have hj : j < 1 := by
        rcases Nat.lt_or_ge j 1 with h | h
        · exact h
        · rw [List.getElem?_eq_none (by simpa using h)] at hv; cases hv
      obtain rfl : j = 0 := by omega
      simp only [List.getElem?_cons_zero] at hv; cases hv; simp [World.cell?, Addr.add_lit, hcell]))
    rfl (fun v hv => by simp at hv; rcases hv with rfl; rfl) (by omega) (by show _ ≤ 2^63-1; omega)
  refine ⟨A', c', w', r, q1, q2, ?_, q4, ?_⟩
  · rcases q3 with ⟨_, q3⟩ | q3
    · omega
    · exact q3
  · simpa only [World.size_alloc] using q5
theorem app_str_more {l : List ByteArray} (x : ByteArray) {w0 wa w3 : World} {A A' : Option Addr} {c c' : Nat} {cs : List Value} (h : FreshP w0 wa .str l A c cs) (h1 : l.length + 1 ≤ c') (h2 : c' ≤ maxLen) (h3 : ∃ ad, A' = some ad ∧ Mem w3 ad (c' * 1) (cs ++ [.string x]))
    (h4 : But (wa.alloc (.cells #[.string x] 9)) A w3) (h5 : A' = A ∨ ∃ ad, A' = some ad ∧ ad.block = wa.heap.size + 1) (h0 : w0.heap.size ≤ wa.heap.size) : FreshP w0 w3 .str (l ++ [x]) A' c' (cs ++ [.string x]) := by
  have hlt := fun {ad} => @freshp_lt _ _ _ _ _ _ _ h ad
  obtain ⟨g2, g3, g4, g5, g6, g7⟩ := h
  refine ⟨by rw [List.length_append]; exact h1, h2, ?_, ?_, fun w R => (g6 w R).append ?_, .inr ?_⟩
  · rw [List.length_append, List.length_append, Nat.add_mul, g4]; rfl
  · intro v hv
    rcases List.mem_append.1 hv with hv | hv
    · exact g5 v hv
    · simp at hv; rcases hv with rfl; rfl
  · exact ⟨_, [], rfl, rfl, rfl⟩
  · obtain ⟨ad, e, hm⟩ := h3
    refine ⟨ad, e, hm, ?_⟩
    rcases h5 with h5 | ⟨ae, h5, h6⟩
    · exact (hlt (h5 ▸ e)).1
    · rw [e] at h5; injection h5 with h5; subst h5; omega
theorem box_set0 {w : World} {b : Nat} {a0 a1 a2 a3 : Value} {T : TypeId} (h : w.heap[b]? = some (.cells #[a0, a1, a2, a3] T)) (v : Value) : (w.setCell ⟨b, 0, none⟩ v).heap[b]? = some (.cells #[v, a1, a2, a3] T) := by
  unfold World.setCell
  simp only [Array.getElem?_modify, if_true, h]
  rfl
theorem rnew_calls (n : Int) {w : World} :
    Calls Try.prog 10 #[.int .i64 n] w fun e w' => ∃ u, e = .returned u ∧ DiskV w w' (newK n) u ∧ But w none w' := by
  have mixed : Try.prog.follows .mixedOrders = true := by kernel_rfl
  by_cases hN : n < 1 ∨ 770 < n
  case pos =>
    have e0 : newK n = ([], [], 0, false, ()) := by rw [newK, if_pos hN]
    rw [e0]
    clear e0
    go_enter Try.func10, Try.ntmps10
    go_wp2_with fail
    have hB0 : But w none ((w.alloc (Obj.cells #[.slice none 0 0, .slice none 0 0, .int .i64 0, .bool false] 28)).alloc (Obj.cells #[.slice none 0 0, .slice none 0 0, .int .i64 0, .bool false] 28)) := (but_alloc _ _ none).trans (but_alloc _ _ none)
    have z0 : ((w.alloc (Obj.cells #[.slice none 0 0, .slice none 0 0, .int .i64 0, .bool false] 28)).alloc (Obj.cells #[.slice none 0 0, .slice none 0 0, .int .i64 0, .bool false] 28)).heap[w.heap.size]? = some (.cells #[.slice none 0 0, .slice none 0 0, .int .i64 0, .bool false] 28) := but_box (MapKept.heap_alloc w _).1 (but_alloc _ _ none)
    have z1 : ((w.alloc (Obj.cells #[.slice none 0 0, .slice none 0 0, .int .i64 0, .bool false] 28)).alloc (Obj.cells #[.slice none 0 0, .slice none 0 0, .int .i64 0, .bool false] 28)).heap[w.heap.size + 1]? = some (.cells #[.slice none 0 0, .slice none 0 0, .int .i64 0, .bool false] 28) := box2_of _ _ (But.refl _ _)
    obtain ⟨w2, hw2⟩ : ∃ w2, w2 = ((w.alloc (Obj.cells #[.slice none 0 0, .slice none 0 0, .int .i64 0, .bool false] 28)).alloc (Obj.cells #[.slice none 0 0, .slice none 0 0, .int .i64 0, .bool false] 28)) := ⟨_, rfl⟩
    have hs2 : w2.heap.size = w.heap.size + 1 + 1 := by rw [hw2]; simp only [World.size_alloc]
    rw [← hw2] at hB0 z0 z1 ⊢
    clear hw2
    go_loopw [4] (fun i wr => i = .int .i64 0 ∧
      wr.heap[w.heap.size + 1]? = some (.cells #[.slice none 0 0, .slice none 0 0, .int .i64 0, .bool false] 28) ∧
      wr.heap[w.heap.size]? = some (.cells #[.slice none 0 0, .slice none 0 0, .int .i64 0, .bool false] 28) ∧ But w none wr) (fun i _ => 0)
    case atStart => exact ⟨rfl, z1, z0, hB0⟩
    case round =>
      obtain ⟨rfl, hb, hz, hB⟩ := hrel
      have ezx := box4 hz
      obtain ⟨z0, z1, z2, z3, z4, z5, z6, z7, z8⟩ := ezx
      have ebx := box4 hb
      obtain ⟨x0, x1, x2, x3, y0, y1, y2, y3, x4⟩ := ebx
      by_cases h0 : (0 : Int) < n
      case pos =>
        have h7 : ¬ n ≤ 770 := fun h => by rcases hN with h1 | h1 <;> omega
        clear hN
        go_wp2_with fail
        refine bodyPost_ret (v := .agg #[.slice none 0 0, .slice none 0 0, .int .i64 0, .bool false]) ((results_cell1 rfl _ _ _).trans ?_) rfl ?_
        · go_simp
          try rfl
        · refine ⟨_, rfl, ⟨none, 0, [], none, 0, [], rfl, freshp_nil _ _ _, freshp_nil _ _ _⟩, ?_⟩
          repeat (refine butSet ?_ _ _ ?hx; case hx => exact Nat.le_refl _)
          exact hB
      case neg =>
        clear hN
        go_wp2_with fail
        refine bodyPost_ret (v := .agg #[.slice none 0 0, .slice none 0 0, .int .i64 0, .bool false]) ((results_cell1 rfl _ _ _).trans ?_) rfl ?_
        · go_simp
          try rfl
        · refine ⟨_, rfl, ⟨none, 0, [], none, 0, [], rfl, freshp_nil _ _ _, freshp_nil _ _ _⟩, ?_⟩
          repeat (refine butSet ?_ _ _ ?hx; case hx => exact Nat.le_refl _)
          exact hB
  case neg =>
  obtain ⟨N, rfl⟩ : ∃ N : Nat, n = (N : Int) := ⟨n.toNat, (Int.toNat_of_nonneg (by omega)).symm⟩
  have hN7 : (N : Int) ≤ 770 := by omega
  have hN8 : N ≤ 770 := by omega
  have e0 : newK (N : Int) = (List.replicate N nought64, [], 0, false, ()) := by rw [newK, if_neg hN, Int.toNat_natCast]
  rw [e0]
  clear e0 hN
  go_enter Try.func10, Try.ntmps10
  go_wp2_with fail
  have hB0 : But w none ((w.alloc (Obj.cells #[.slice none 0 0, .slice none 0 0, .int .i64 0, .bool false] 28)).alloc (Obj.cells #[.slice none 0 0, .slice none 0 0, .int .i64 0, .bool false] 28)) := (but_alloc _ _ none).trans (but_alloc _ _ none)
  have z0 : ((w.alloc (Obj.cells #[.slice none 0 0, .slice none 0 0, .int .i64 0, .bool false] 28)).alloc (Obj.cells #[.slice none 0 0, .slice none 0 0, .int .i64 0, .bool false] 28)).heap[w.heap.size]? = some (.cells #[.slice none 0 0, .slice none 0 0, .int .i64 0, .bool false] 28) := but_box (MapKept.heap_alloc w _).1 (but_alloc _ _ none)
  have z1 : ((w.alloc (Obj.cells #[.slice none 0 0, .slice none 0 0, .int .i64 0, .bool false] 28)).alloc (Obj.cells #[.slice none 0 0, .slice none 0 0, .int .i64 0, .bool false] 28)).heap[w.heap.size + 1]? = some (.cells #[.slice none 0 0, .slice none 0 0, .int .i64 0, .bool false] 28) := box2_of _ _ (But.refl _ _)
  obtain ⟨w2, hw2⟩ : ∃ w2, w2 = ((w.alloc (Obj.cells #[.slice none 0 0, .slice none 0 0, .int .i64 0, .bool false] 28)).alloc (Obj.cells #[.slice none 0 0, .slice none 0 0, .int .i64 0, .bool false] 28)) := ⟨_, rfl⟩
  have hs2 : w2.heap.size = w.heap.size + 1 + 1 := by rw [hw2]; simp only [World.size_alloc]
  rw [← hw2] at hB0 z0 z1 ⊢
  clear hw2
  go_loopw [4] (fun i wr => ∃ (k : Nat) (A : Option Addr) (c : Nat) (cs : List Value), i = .int .i64 k ∧ k ≤ N ∧ FreshP w2 wr .str (List.replicate k nought64) A c cs ∧
      wr.heap[w.heap.size + 1]? = some (.cells #[.slice A k c, .slice none 0 0, .int .i64 0, .bool false] 28) ∧
      wr.heap[w.heap.size]? = some (.cells #[.slice none 0 0, .slice none 0 0, .int .i64 0, .bool false] 28) ∧ But w none wr) (fun i _ => N - (intOf i).toNat)
  case atStart => exact ⟨0, none, 0, [], rfl, Nat.zero_le _, freshp_nil _ _ _, z1, z0, hB0⟩
  case round =>
    obtain ⟨k, A, c, cs, rfl, hk, hL, hb, hz, hB⟩ := hrel
    have ezx := box4 hz
    obtain ⟨z0, z1, z2, z3, z4, z5, z6, z7, z8⟩ := ezx
    have ebx := box4 hb
    obtain ⟨x0, x1, x2, x3, y0, y1, y2, y3, x4⟩ := ebx
    by_cases hlt : k < N
    case pos =>
      have hI : ((k : Int) < (N : Int)) := Int.ofNat_lt.2 hlt
      have hw1 : wrap64 ((k : Int) + 1) = (k : Int) + 1 := wrap64_in _ (by omega)
      have hl1000 : (List.replicate k nought64).length ≤ 1000 := by rw [List.length_replicate]; exact Nat.le_trans hk (Nat.le_trans hN8 (by decide))
      have hA := fun {ad} => @freshp_lt _ _ _ _ _ _ _ hL ad
      rw [hs2] at hA
      have hA1 : ∀ ad, A = some ad → ad.block ≠ w.heap.size + 1 := fun ad e h => by have := (hA e).1; rw [h] at this; exact absurd this (Nat.not_succ_le_self _)
      have hA0 : ∀ ad, A = some ad → ad.block ≠ w.heap.size := fun ad e h => by have := (hA e).1; rw [h] at this; exact absurd (Nat.le_of_succ_le this) (Nat.not_succ_le_self _)
      have hs0 : w2.heap.size ≤ wr.heap.size := by rw [hs2]; exact x4
      go_wp2_with fail
      go_region_with (go_at_call 23; refine (noughts_calls _).mono ?_; rintro _ wa ⟨rfl, ba⟩; have hba := box4 (but_box (w := wr.drew) hb ba); obtain ⟨m0, m1, m2, m3, m4, m5, m6, m7, m8⟩ := hba; have hLa := hL.move (w' := wa) (fun ad e => (ba.block _ (freshp_lt hL e).2 (fun _ h => by cases h))); obtain ⟨A', c', w3, r1, p1, p2, p3, p4, p5⟩ := app_str nought64 hLa hl1000; have hL3 := app_str_more nought64 hLa p1 p2 p3 p4 p5 (Nat.le_trans hs0 ba.size); rw [List.length_replicate] at r1 p1; have hb3 := app_beside p4 (but_box (w := wr.drew) hb ba) hA1; have hz3 := app_beside p4 (but_box (w := wr.drew) hz ba) hA0; have hbx3 := box4 hb3; obtain ⟨q0, q1, q2, q3, q4, q5, q6, q7, q8⟩ := hbx3)
      all_goals clear hN7 hN8 hl1000
      all_goals go_wp2_with fail
      all_goals
        go_roundw
        case rel =>
          have hA3 : ∀ ad, A' = some ad → ad.block ≠ w.heap.size + 1 := fun ad e h => by have := (freshp_lt hL3 e).1; rw [hs2, h] at this; exact absurd this (Nat.not_succ_le_self _)
          refine ⟨k + 1, A', c', cs ++ [.string nought64], by simp; exact hw1, hlt, ?_, box_set0 hb3 _, box_ne 0 _ hz3 (fun h => absurd h (Nat.ne_of_lt (Nat.lt_succ_self _))), butSet (but_over (((hB.trans (but_drew _ _)).trans ba).trans (but_alloc _ _ none)) p4 (fun ad e => Nat.le_trans (Nat.le_trans (Nat.le_succ _) (Nat.le_succ _)) (hA e).1)) _ _ (Nat.le_succ _)⟩
          rw [List.replicate_succ']
          exact hL3.move fun ad e => RowKit.Below.heap_setCell _ _ _ _ (hA3 ad e)
        case measure =>
          show N - (intOf (.int .i64 (wrap64 ((k : Int) + 1)))).toNat < N - (intOf (.int .i64 (k : Int))).toNat
          rw [hw1]
          exact loop_less hlt
    case neg =>
      obtain rfl : k = N := by omega
      have hI : ¬ ((k : Int) < (k : Int)) := Int.lt_irrefl _
      go_wp2_with fail
      refine bodyPost_ret (v := .agg #[.slice A k c, .slice none 0 0, .int .i64 0, .bool false]) ((results_cell1 rfl _ _ _).trans ?_) rfl ?_
      · go_simp
        try rfl
      · have hA := fun {ad} => @freshp_lt _ _ _ _ _ _ _ hL ad
        rw [hs2] at hA
        have hA0 : ∀ ad, A = some ad → ad.block ≠ w.heap.size := fun ad e h => by have := (hA e).1; rw [h] at this; exact absurd (Nat.le_of_succ_le this) (Nat.not_succ_le_self _)
        refine ⟨_, rfl, ⟨A, c, cs, none, 0, [], by simp only [List.length_replicate]; rfl, (hL.base (w' := w) (by rw [hs2]; exact Nat.le_trans (Nat.le_succ _) (Nat.le_succ _))).move (fun ad e => ?_), freshp_nil _ _ _⟩, ?_⟩
        · have k1 := hA0 ad e
          repeat (refine (RowKit.Below.heap_setCell _ _ _ _ ?_).trans ?_; · exact k1)
          rfl
        · repeat (refine butSet ?_ _ _ ?hx; case hx => exact Nat.le_refl _)
          exact hB
end Go.Proofs.Ytcopoofbicgjbaa
