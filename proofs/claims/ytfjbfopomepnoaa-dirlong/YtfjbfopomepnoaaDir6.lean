/- dir: one name more, by the program: walked on the machine. -/
import Derived.Test.YtfjbfopomepnoaaDir5
set_option maxRecDepth 100000
set_option maxHeartbeats 1000000
set_option linter.unusedSimpArgs false
set_option linter.unusedVariables false
set_option pp.deepTerms.threshold 14
namespace Go.Proofs.Ytfjbfopomepnoaa
open Go.Tm Go.IntWalk Go.RowKit
theorem goes_calls {P : Program} {f : FuncId} {fn : Func} {vals : List Value} {w : World} {r : Res} {R : Value → World → Prop} (hf : P.funcs[f]? = some fn) (hname : (fn.name == "runtime.NumGoroutine") = false) (hb : fn.body.isSome = true) (h : Goes P f vals w r R) :
    Calls P f vals.toArray w fun e w' => ∃ v, e = ends r v ∧ R v w' := by
  have e := enters hf hname hb vals.toArray w
  rcases h with ⟨g, gs, w1, h1, h2⟩ | ⟨_, v, w', h1, _⟩
  · rw [e] at h1
    injection h1 with h1 h3
    injection h1 with h1 h4
    subst h1 h3 h4
    exact h2
  · rw [e] at h1
    injection h1 with h1 _
    cases h1
/-- slices.Insert of one entry, that lies in a block for itself. -/
theorem ins_all (A : Option Addr) (n c i vb : Nat) (cs vs : List Value) (e : TypeId) (w : World) (hi : i ≤ n) (hnc : n ≤ c) (hc : c ≤ maxLen) (hn : n ≤ 1000000000000) (hm : (A = none ∧ c = 0) ∨ ∃ ad, A = some ad ∧ Mem w ad (c * 2) cs) (hl : cs.length = n * 2) (h1 : ∀ v ∈ cs, v.oneCell' = true)
    (hvb : w.heap[vb]? = some (.cells vs.toArray e (0, 0))) (hne : ∀ ad, A = some ad → vb ≠ ad.block) (hvl : vs.length = 2) (hv1 : ∀ v ∈ vs, v.oneCell' = true) :
    Calls Try.prog 28 #[.slice A n c, .int .i64 (i : Int), .slice (some ⟨vb, 0, none⟩) 1 1] w fun e w' =>
      ∃ A' c', e = .returned (.slice A' (n + 1) c') ∧ n + 1 ≤ c' ∧ c' ≤ maxLen ∧ ((A' = none ∧ c' = 0) ∨ ∃ ad, A' = some ad ∧ Mem w' ad (c' * 2) (cs.take (i * 2) ++ vs ++ cs.drop (i * 2))) ∧ But w A w' ∧ (A' = A ∨ ∃ ad, A' = some ad ∧ ad.block = w.heap.size) := by
  have hlies : lies w ⟨vb, 0, none⟩ vs := fun j v hv => by
    simp only [Addr.add_lit, Nat.zero_add, World.cell?]
    rw [hvb]
    simpa using hv
  have hlt : vb < w.heap.size := (Array.getElem?_eq_some_iff.1 hvb).1
  have hfz : ∀ o, w.frozen? ⟨vb, o, none⟩ = false := fun o => by simp [World.frozen?, hvb]
  have hsh : w.shape? vb = some (e, 2) := by simp [World.shape?, hvb, hvl]
  rcases Nat.lt_or_ge i n with hin | hin
  · rcases hm with ⟨rfl, rfl⟩ | ⟨⟨b, off, sp⟩, rfl, hm⟩
    · omega
    obtain rfl : sp = none := hm.out.1
    rcases Nat.lt_or_ge n c with hnc2 | hnc2
    · refine (ins_room b off n c i vb 0 1 cs vs w hin hnc2 hc hm hl h1 hlies (hne _ rfl) hvl hv1 e 2 hsh hfz).mono ?_
      rintro e w' ⟨rfl, q1, q2⟩
      exact ⟨_, c, rfl, hnc2, hc, .inr ⟨_, rfl, q1⟩, q2, .inl rfl⟩
    · obtain rfl : c = n := by omega
      refine (ins_grow b off c i vb 0 1 cs vs w hin hn hm hl h1 hlies hlt hvl hv1).mono ?_
      rintro e w' ⟨c', rfl, q0, q1, q2, q3⟩
      exact ⟨_, c', rfl, q0, q1, .inr ⟨_, rfl, q2⟩, ⟨q3.os, q3.tape, q3.output, q3.size, fun x hx _ => q3.block x hx (fun _ h => by cases h)⟩, .inr ⟨_, rfl, rfl⟩⟩
  · obtain rfl : i = n := by omega
    refine (ins_end A i c vb 0 1 cs vs w hnc hc hn hm hl hlies hvl hv1).mono ?_
    rintro e w' ⟨A', c', rfl, q0, q1, q2, q3, q4⟩
    rw [List.take_of_length_le (by omega), List.drop_eq_nil_of_le (by omega), List.append_nil]
    exact ⟨A', c', rfl, q0, q1, q2, q3, q4⟩
theorem place_calls (xs : List Ent) (nm : ByteArray) (hr : Rises xs) (hl : xs.length ≤ 1000000000000) {w : World} {R : Nat → Prop} {v : Value} (hv : vrep w R (.slice EntT) xs v) :
    Calls Try.prog 26 #[v, .string nm] w fun e w' => e = .returned (.tuple #[.int .i64 (posD xs nm : Int), .bool (atD xs nm)]) ∧ But w none w' := by
  have hc : dplaceC [.val ⟨.slice EntT, xs⟩, .val ⟨.str, nm⟩] = some ⟨.tup [⟨.int .i64, (posD xs nm : Int)⟩, ⟨.bool, atD xs nm⟩], []⟩ := by
    rw [dplaceC_eq, if_pos ⟨hr, hl⟩]
  have hrd : Ready w (fun b => R b ∧ True) [.val ⟨.slice EntT, xs⟩, .val ⟨.str, nm⟩] [v, .string nm] :=
    ⟨⟨v, _, rfl, vrep_mono (Nat.le_refl _) (fun b _ h => ⟨h, trivial⟩) (fun _ _ _ => rfl) hv, .string nm, [], rfl, mk_str _ _ _, rfl⟩, List.nodup_nil, fun b hb => by cases hb⟩
  refine (goes_calls Try.func26 (by kernel_rfl) (by kernel_rfl) (dplace_ok _ _ _ _ _ hc hrd)).mono ?_
  rintro e w' ⟨v', rfl, h⟩
  obtain ⟨vs, hvs, h1⟩ := (show ∃ vs, v' = .tuple vs.toArray ∧ tupRep w' _ [⟨.int .i64, (posD xs nm : Int)⟩, ⟨.bool, atD xs nm⟩] vs from h.res)
  obtain ⟨a, r, rfl, ha, b, r2, rfl, hb, rfl⟩ := h1
  have ha := vrep_int ha
  have hb := vrep_bool hb
  subst ha hb hvs
  exact ⟨rfl, ⟨h.kept.os, h.kept.tape, h.kept.output, h.kept.size, fun x hx _ => h.kept.block x hx (fun hb => by cases hb)⟩⟩
theorem clone_calls (xs : List Ent) (hl : xs.length ≤ 1000000000000) {w : World} {R : Nat → Prop} {v : Value} (hv : vrep w R (.slice EntT) xs v) :
    Calls Try.prog 27 #[v] w fun e w' => ∃ A c cs, e = .returned (.slice A xs.length c) ∧ xs.length ≤ c ∧ c ≤ maxLen ∧ cs.length = xs.length * 2 ∧ (∀ v ∈ cs, v.oneCell' = true) ∧ (∀ w R, repList (rep w R EntT) xs cs) ∧
      ((A = none ∧ c = 0) ∨ ∃ ad, A = some ad ∧ Mem w' ad (c * 2) cs) ∧ (∀ ad, A = some ad → w.heap.size ≤ ad.block) ∧ But w none w' := by
  have hc : dcloneEC [.val ⟨.slice EntT, xs⟩] = some ⟨.own EntT xs, []⟩ := by rw [dcloneEC_eq, if_pos hl]
  have hrd : Ready w R [.val ⟨.slice EntT, xs⟩] [v] := ⟨⟨v, [], rfl, hv, rfl⟩, List.nodup_nil, fun b hb => by cases hb⟩
  refine (goes_calls Try.func27 (by kernel_rfl) (by kernel_rfl) (dcloneE_ok _ _ _ _ _ hc hrd)).mono ?_
  rintro e w' ⟨v', rfl, h⟩
  obtain ⟨A, c, cs, rfl, g1, g2, g3, g4⟩ := (show OwnS w' _ EntT xs v' from h.res)
  refine ⟨A, c, cs, rfl, g1, g2, g3.length (fun x c hx => rep_len EntT hx), rep_cells (.arr xs.length EntT) (x := xs) ⟨rfl, g3⟩, fun w R => repList_near (by rfl) g3, g4, fun ad e => ?_, ⟨h.kept.os, h.kept.tape, h.kept.output, h.kept.size, fun x hx _ => h.kept.block x hx (fun hb => by cases hb)⟩⟩
  subst e
  rcases h.fresh ad.block rfl with h1 | ⟨_, h1⟩
  · exact h1
  · cases h1
theorem dwith_core (xs : List Ent) (s : ByteArray) (k : Int) (hr : Rises xs) (hl : xs.length ≤ 1000000000) {v : Value} {w : World} {R : Nat → Prop} (hv : vrep w R (.slice EntT) xs v) :
    Calls Try.prog 16 #[v, .agg #[.string s, .int .i64 k]] w fun e w' => ∃ A c cs, e = .returned (.tuple #[.slice A (withD xs (s, k, ())).1.length c, .bool (withD xs (s, k, ())).2]) ∧ (withD xs (s, k, ())).1.length ≤ c ∧ c ≤ maxLen ∧ (∀ w R, repList (rep w R EntT) (withD xs (s, k, ())).1 cs) ∧
      ((A = none ∧ c = 0) ∨ ∃ ad, A = some ad ∧ Mem w' ad (c * 2) cs) ∧ (∀ ad, A = some ad → w.heap.size ≤ ad.block) ∧ But w none w' := by
  have mixed : Try.prog.follows .mixedOrders = true := by kernel_rfl
  have hbox : But w none (w.alloc (.cells #[.string s, .int .i64 k] 26)) := but_alloc _ _ _
  have hv1 : vrep (w.alloc (.cells #[.string s, .int .i64 k] 26)) R (.slice EntT) xs v := vrep_mono hbox.size (fun _ _ h => h) (fun b hb _ => hbox.block b hb (fun _ h => by cases h)) hv
  have c1 := place_calls xs s hr (by omega) hv1
  go_enter Try.func16, Try.ntmps16
  go_wp2_with fail
  refine c1.mono ?_
  rintro _ w2 ⟨rfl, b2⟩
  have bw2 : But w none w2 := hbox.trans b2
  have hv2 : vrep w2 R (.slice EntT) xs v := vrep_mono bw2.size (fun _ _ h => h) (fun b hb _ => bw2.block b hb (fun _ h => by cases h)) hv
  have hbx2 : w2.heap[w.heap.size]? = some (.cells #[.string s, .int .i64 k] 26) := by
    rw [b2.block w.heap.size (by simp) (fun _ h => by cases h)]
    exact (MapKept.heap_alloc w _).1
  have hlt2 : w.heap.size < w2.heap.size := (Array.getElem?_eq_some_iff.1 hbx2).1
  go_wp2_with fail
  refine (clone_calls xs (by omega) hv2).mono ?_
  rintro _ w3 ⟨A, c, cs, rfl, g1, g2, g3, g4, g5, g6, g7, b3⟩
  have bw3 : But w none w3 := bw2.trans b3
  have hbx3 : w3.heap[w.heap.size]? = some (.cells #[.string s, .int .i64 k] 26) := by
    rw [b3.block w.heap.size hlt2 (fun _ h => by cases h), hbx2]
  have hc0 : w3.cell? ⟨w.heap.size, 0, none⟩ = some (.string s) := by simp [World.cell?, hbx3]
  have hc1 : w3.cell? ⟨w.heap.size, 1, none⟩ = some (.int .i64 k) := by simp [World.cell?, hbx3]
  cases hat : atD xs s with
  | true =>
    go_wp2_with fail
    go_ret2
    have hw : withD xs (s, k, ()) = (xs, false) := by rw [withD, if_pos (by rw [find_at hr]; exact hat)]
    rw [hw]
    exact ⟨A, c, cs, rfl, g1, g2, g5, g6, fun ad e => Nat.le_trans bw2.size (g7 ad e), bw3⟩
  | false =>
    go_wp2_with fail
    have b4 : But w3 none (w3.alloc (.cells #[.string s, .int .i64 k] 26)) := but_alloc _ _ _
    have hm4 : (A = none ∧ c = 0) ∨ ∃ ad, A = some ad ∧ Mem (w3.alloc (.cells #[.string s, .int .i64 k] 26)) ad (c * 2) cs := by
      rcases g6 with g6 | ⟨ad, e, g6⟩
      · exact .inl g6
      · exact .inr ⟨ad, e, g6.move (b4.block _ g6.block_lt (fun _ h => by cases h))⟩
    have hA4 : ∀ ad, A = some ad → w3.heap.size ≠ ad.block := fun ad e => by
      rcases g6 with ⟨g6, _⟩ | ⟨ad', e', g6⟩
      · rw [g6] at e; cases e
      · rw [e'] at e
        injection e with e
        subst e
        have := g6.block_lt
        omega
    have hp := (posD_spec xs s).1
    refine (ins_all A xs.length c (posD xs s) w3.heap.size cs [.string s, .int .i64 k] 26 _ hp g1 g2 (by omega) hm4 g3 g4 (MapKept.heap_alloc w3 _).1 hA4 rfl (by simp [Value.oneCell'])).mono ?_
    rintro _ w5 ⟨A', c', rfl, k1, k2, k3, k4, k5⟩
    go_wp2_with fail
    go_ret2
    have hnone := find_none_at hr hat
    have hw : withD xs (s, k, ()) = (xs.take (posD xs s) ++ (s, k, ()) :: xs.drop (posD xs s), true) := by
      rw [withD, if_neg (by rw [find_at hr, hat]; decide), ins_at hnone]
    have hlen : (xs.take (posD xs s) ++ (s, k, ()) :: xs.drop (posD xs s)).length = xs.length + 1 := by
      rw [List.length_append, List.length_cons, List.length_take, List.length_drop]; omega
    rw [hw]
    simp only [hlen]
    refine ⟨A', c', _, rfl, k1, k2, fun w R => ?_, k3, fun ad e => ?_, ?_⟩
    · have e1 := repList_take (g5 w R) (posD xs s)
      have e2 := (g5 w R).drop (fun x c hx => rep_len EntT hx) (posD xs s)
      have e3 : repList (rep w R EntT) [((s, k, ()) : Ent)] [.string s, .int .i64 k] := repList.one ⟨[.string s], [.int .i64 k], rfl, rfl, [.int .i64 k], [], rfl, rfl, rfl⟩
      have := (e1.append e3).append e2
      rw [List.append_assoc] at this
      exact this
    · rcases k5 with rfl | ⟨ad', e', h⟩
      · have := g7 ad e
        exact Nat.le_trans bw2.size this
      · rw [e'] at e
        injection e with e
        subst e
        rw [h]
        exact Nat.le_trans bw3.size b4.size
    · refine ⟨k4.os.trans bw3.os, k4.tape.trans bw3.tape, k4.output.trans bw3.output, Nat.le_trans bw3.size (Nat.le_trans b4.size k4.size), fun x hx _ => ?_⟩
      rw [k4.block x (Nat.lt_of_lt_of_le hx (Nat.le_trans bw3.size b4.size)) (fun ad e => ?_), b4.block x (Nat.lt_of_lt_of_le hx bw3.size) (fun _ h => by cases h), bw3.block x hx (fun _ h => by cases h)]
      have := Nat.le_trans bw2.size (g7 ad e)
      omega
end Go.Proofs.Ytfjbfopomepnoaa
