/- Texts joined: Dir4, Dir5, Dir6, Dir7. -/
import Derived.Test.YtodkmhamaahjmaaGreatDoorG4
import Derived.Test.YtodkmhamaahjmaaGreatDoorDirIns
/- dir: one name more, one less, by the program. -/
set_option maxRecDepth 10000
set_option maxHeartbeats 1000000
set_option linter.unusedSimpArgs false
set_option linter.unusedVariables false
set_option pp.deepTerms.threshold 14
namespace Go.Proofs.YtodkmhamaahjmaaGreatDoor
open Go.Tm Go.IntWalk
/-- The contract of slices.Delete[[]api.Entry,api.Entry]. -/
def ddelC : Con := conR [(.r, EntT), (.v, .int .i64), (.v, .int .i64)] fun (xs, i, j, _) => if 0 ≤ i ∧ i < (xs.length : Int) ∧ j = i + 1 then some ⟨.own EntT (xs.take i.toNat ++ xs.drop (i.toNat + 1)), []⟩ else none
theorem ddelC_eq {xs : List (Ty.den (EntT))} {i : Int} {j : Int} : ddelC [.row (EntT) xs, .val ⟨.int .i64, i⟩, .val ⟨.int .i64, j⟩] = if 0 ≤ i ∧ i < (xs.length : Int) ∧ j = i + 1 then some ⟨.own EntT (xs.take i.toNat ++ xs.drop (i.toNat + 1)), []⟩ else none := conR_mk (ks := [(.r, EntT), (.v, .int .i64), (.v, .int .i64)]) (xs, i, j, ())
def Γddel : Cons := cons []
theorem repList_near {w w' : World} {R R' : Nat → Prop} {t : Ty} {xs : List t.den} {cs : List Value} (hf : t.far = false) (h : repList (rep w R t) xs cs) : repList (rep w' R' t) xs cs := h.imp fun x c _ hx => rep_near t hf hx
theorem ddel_core (xs : List Ent) (k : Nat) (hk : k < xs.length) {vals : List Value} {w : World} {R : Nat → Prop} (hrd : Ready w R [.row EntT xs, .val ⟨.int .i64, (k : Int)⟩, .val ⟨.int .i64, (k : Int) + 1⟩] vals) :
    Goes Tryz.prog 95 vals w (.own EntT (xs.take k ++ xs.drop (k + 1))) (After w R [.row EntT xs, .val ⟨.int .i64, (k : Int)⟩, .val ⟨.int .i64, (k : Int) + 1⟩] vals ⟨.own EntT (xs.take k ++ xs.drop (k + 1)), []⟩) := by
  obtain ⟨hrep, hnd, hap⟩ := hrd
  obtain ⟨v1, r1, rfl, hv1, v2, r2, rfl, hv2, v3, r3, rfl, hv3, rfl⟩ := hrep
  obtain ⟨A, c, cs, rfl, g1, g2, g3, g4⟩ := (show OwnS w R EntT xs v1 from hv1)
  have hv2 := vrep_int hv2
  have hv3 := vrep_int hv3
  subst hv2 hv3
  have hlen : cs.length = xs.length * 2 := g3.length (fun x c hx => rep_len EntT hx)
  have hcell : ∀ v ∈ cs, v.oneCell' = true := rep_cells (w := w) (R := R) (.arr xs.length EntT) (x := xs) ⟨rfl, g3⟩
  rcases g4 with ⟨rfl, rfl⟩ | ⟨⟨b, off, sp⟩, rfl, hm⟩
  · omega
  obtain rfl : sp = none := hm.out.1
  have run := del_run b off xs.length (xs.length - 1) c k cs w (by omega) (by omega) g1 g2 hm hlen hcell
  refine .inl ⟨_, _, w, enters Tryz.func95 (by kernel_rfl) (by kernel_rfl) _ _, run.mono ?_⟩
  rintro e w' ⟨rfl, hm', hb⟩
  refine ⟨_, rfl, ⟨hb.os, hb.tape, hb.output, hb.size, fun x hx hn => hb.block x hx fun ad e => ?_⟩, fun x hx => .inr ⟨rfl, ?_⟩, ?_, ?_⟩
  · injection e with e
    subst e
    rintro rfl
    exact hn (by simp [ioBlks, ioBlk])
  · have hx : b = x := by injection hx
    rw [← hx]
    simp [rowBlks, rowBlk]
  · have hl2 : (xs.take k ++ xs.drop (k + 1)).length = xs.length - 1 := by rw [List.length_append, List.length_take, List.length_drop]; omega
    refine ⟨some ⟨b, off, none⟩, c, _, by rw [hl2], by rw [hl2]; omega, g2, ?_, .inr ⟨_, rfl, hm'⟩⟩
    have ht := repList_take g3 k
    have hd := g3.drop (fun x c hx => rep_len EntT hx) (k + 1)
    have e2 : (k + 1) * EntT.sz = k * 2 + 2 := by show (k + 1) * 2 = _; omega
    rw [e2] at hd
    exact (repList_near (by rfl) ht).append (repList_near (by rfl) hd)
  · exact ⟨_, _, rfl, _, _, rfl, _, _, rfl, rfl⟩
theorem ddel_ok : ConOK Tryz.prog 95 ddelC := by
  intro args out vals w R h hrd
  have hne : args ≠ [.ask] := by
    rintro rfl
    obtain ⟨v, r, _, hf, _⟩ := hrd.rep
    exact hf
  obtain ⟨x, e, h1⟩ := conR_inv h hne
  clear h hne
  obtain ⟨xs, i, j, x0⟩ := x
  subst e
  replace h1 : (if 0 ≤ (i : Int) ∧ (i : Int) < (List.length xs : Int) ∧ (j : Int) = (i : Int) + 1 then some (⟨.own EntT (List.take (Int.toNat i) xs ++ List.drop (Int.toNat i + 1) xs), []⟩ : Out) else none) = some out := h1
  split at h1
  case isFalse => cases h1
  rename_i hr
  injection h1 with h1
  subst h1
  obtain ⟨hi0, hi1, hj⟩ := hr
  obtain ⟨k, hk⟩ : ∃ k : Nat, (i : Int) = (k : Int) := ⟨Int.toNat i, (Int.toNat_of_nonneg hi0).symm⟩
  subst hk
  subst hj
  exact ddel_core xs k (Int.ofNat_lt.1 hi1) hrd
end Go.Proofs.YtodkmhamaahjmaaGreatDoor

/- dir: one name less, by the program. -/
set_option maxRecDepth 10000
set_option maxHeartbeats 1000000
set_option linter.unusedSimpArgs false
set_option linter.unusedVariables false
set_option pp.deepTerms.threshold 14
namespace Go.Proofs.YtodkmhamaahjmaaGreatDoor
open Go.Tm Go.IntWalk
/-- The contract of dir.Less. -/
def dlessDC : Con := conN [(.v, .slice EntT), (.v, .str)] fun (l, nm, _) => if Rises l ∧ l.length ≤ 1000000000000 then some ⟨.tup [⟨.slice EntT, (lessD l nm).1⟩, ⟨.bool, (lessD l nm).2⟩], []⟩ else none
theorem dlessDC_eq {l : List (Ty.den (EntT))} {nm : ByteArray} : dlessDC [.val ⟨.slice EntT, l⟩, .val ⟨.str, nm⟩] = if Rises l ∧ l.length ≤ 1000000000000 then some ⟨.tup [⟨.slice EntT, (lessD l nm).1⟩, ⟨.bool, (lessD l nm).2⟩], []⟩ else none := conN_mk (ks := [(.v, .slice EntT), (.v, .str)]) (l, nm, ())
def ΓdlessD : Cons := cons [(87, dplaceC), (89, dcloneEC), (95, ddelC)]
theorem dlessD_ex (l : List (Ty.den (EntT))) (nm : ByteArray) (hr : Rises l ∧ l.length ≤ 1000000000000) : Ex tab ΓdlessD (Tryz.f77.body.getD .skip) (EndsF tab Tryz.f77.results.toList [.val ⟨.slice EntT, l⟩, .val ⟨.str, nm⟩] ⟨.tup [⟨.slice EntT, (lessD l nm).1⟩, ⟨.bool, (lessD l nm).2⟩], []⟩) (ini [.val ⟨.slice EntT, l⟩, .val ⟨.str, nm⟩]) := by
  have g_dplace : ΓdlessD 87 = some dplaceC := rfl
  have g_dcloneE : ΓdlessD 89 = some dcloneEC := rfl
  have g_ddel : ΓdlessD 95 = some ddelC := rfl
  simp only [Tryz.f77, Option.getD_some]
  simp (implicitDefEqProofs := false) (decide := true) (maxSteps := 4000000) [ini, g_dplace, dplaceC_eq, g_dcloneE, dcloneEC_eq, g_ddel, ddelC_eq]
  obtain ⟨h1, h2⟩ := hr
  refine ⟨⟨h1, h2⟩, h2, br_intro (fun h => ?_) fun h => ?_⟩
  · rw [lessD, if_neg (by rw [find_at h1, show atD l nm = false by simpa using h]; decide)]; exact ⟨rfl, rfl⟩
  · have h : atD l nm = true := by simpa using h
    obtain ⟨hp, _⟩ := atD_iff.1 h
    rw [lessD, if_pos (by rw [find_at h1, h])]
    have hw : IntKind.i64.wrap ((posD l nm : Int) + 1) = ((posD l nm + 1 : Nat) : Int) := w_nat (by omega) (by omega)
    refine ⟨⟨hp, by rw [hw]; omega⟩, (less_at h1 h).symm, rfl⟩
theorem dlessD_ok : ConOK Tryz.prog 77 dlessDC := by
  refine con_ok tab_ok (Γ := ΓdlessD) (consOK_cons dplace_ok (consOK_cons dcloneE_ok (consOK_cons ddel_ok consOK_nil))) (by kernel_rfl) Tryz.func77 (by kernel_rfl) ?_
  intro args out h
  obtain ⟨x, e, h1⟩ := conN_inv h
  clear h
  obtain ⟨l, nm, x0⟩ := x
  subst e
  replace h1 : (if Rises l ∧ l.length ≤ 1000000000000 then some ⟨.tup [⟨.slice EntT, (lessD l nm).1⟩, ⟨.bool, (lessD l nm).2⟩], []⟩ else none) = some out := h1
  split at h1
  case isFalse => cases h1
  rename_i hr
  injection h1 with h1
  subst h1
  exact ⟨by rw [mkArgs_len]; decide, dlessD_ex l nm hr⟩
end Go.Proofs.YtodkmhamaahjmaaGreatDoor

/- dir: one name more, by the program: walked on the machine. -/
set_option maxRecDepth 100000
set_option maxHeartbeats 1000000
set_option linter.unusedSimpArgs false
set_option linter.unusedVariables false
set_option pp.deepTerms.threshold 14
namespace Go.Proofs.YtodkmhamaahjmaaGreatDoor
open Go.Tm Go.IntWalk Go.RowKit
theorem goes_calls {P : Program} {f : FuncId} {fn : Func} {vals : List Value} {w : World} {r : Res} {R : Value → World → Prop} (hf : P.funcs[f]? = some fn) (hname : (fn.name == "runtime.NumGoroutine") = false) (hb : fn.body.isSome = true) (h : Goes P f vals w r R) :
    Calls P f vals.toArray w fun e w' => ∃ v, e = ends r v ∧ R v w' := by
  have e := enters hf hname hb vals.toArray w
  rcases h with ⟨g, gs, w1, h1, h2⟩ | ⟨_, v, w', h1, _⟩
  · rw [e] at h1
    injection h1 with h1 h3
    injection h1 with h1 h4
    subst h1 h3 h4
    exact h2
  · rw [e] at h1
    injection h1 with h1 _
    cases h1
/-- slices.Insert of one entry, that lies in a block for itself. -/
theorem ins_all (A : Option Addr) (n c i vb : Nat) (cs vs : List Value) (e : TypeId) (w : World) (hi : i ≤ n) (hnc : n ≤ c) (hc : c ≤ maxLen) (hn : n ≤ 1000000000000) (hm : (A = none ∧ c = 0) ∨ ∃ ad, A = some ad ∧ Mem w ad (c * 2) cs) (hl : cs.length = n * 2) (h1 : ∀ v ∈ cs, v.oneCell' = true)
    (hvb : w.heap[vb]? = some (.cells vs.toArray e (0, 0))) (hne : ∀ ad, A = some ad → vb ≠ ad.block) (hvl : vs.length = 2) (hv1 : ∀ v ∈ vs, v.oneCell' = true) :
    Calls Tryz.prog 90 #[.slice A n c, .int .i64 (i : Int), .slice (some ⟨vb, 0, none⟩) 1 1] w fun e w' =>
      ∃ A' c', e = .returned (.slice A' (n + 1) c') ∧ n + 1 ≤ c' ∧ c' ≤ maxLen ∧ ((A' = none ∧ c' = 0) ∨ ∃ ad, A' = some ad ∧ Mem w' ad (c' * 2) (cs.take (i * 2) ++ vs ++ cs.drop (i * 2))) ∧ But w A w' ∧ (A' = A ∨ ∃ ad, A' = some ad ∧ ad.block = w.heap.size) := by
  have hlies : lies w ⟨vb, 0, none⟩ vs := fun j v hv => by
    simp only [Addr.add_lit, Nat.zero_add, World.cell?]
    rw [hvb]
    simpa using hv
  have hlt : vb < w.heap.size := (Array.getElem?_eq_some_iff.1 hvb).1
  have hfz : ∀ o, w.frozen? ⟨vb, o, none⟩ = false := fun o => by simp [World.frozen?, hvb]
  have hsh : w.shape? vb = some (e, 2) := by simp [World.shape?, hvb, hvl]
  rcases Nat.lt_or_ge i n with hin | hin
  · rcases hm with ⟨rfl, rfl⟩ | ⟨⟨b, off, sp⟩, rfl, hm⟩
    · omega
    obtain rfl : sp = none := hm.out.1
    rcases Nat.lt_or_ge n c with hnc2 | hnc2
    · refine (ins_room b off n c i vb 0 1 cs vs w hin hnc2 hc hm hl h1 hlies (hne _ rfl) hvl hv1 e 2 hsh hfz).mono ?_
      rintro e w' ⟨rfl, q1, q2⟩
      exact ⟨_, c, rfl, hnc2, hc, .inr ⟨_, rfl, q1⟩, q2, .inl rfl⟩
    · obtain rfl : c = n := by omega
      refine (ins_grow b off c i vb 0 1 cs vs w hin hn hm hl h1 hlies hlt hvl hv1).mono ?_
      rintro e w' ⟨c', rfl, q0, q1, q2, q3⟩
      exact ⟨_, c', rfl, q0, q1, .inr ⟨_, rfl, q2⟩, ⟨q3.os, q3.tape, q3.output, q3.size, fun x hx _ => q3.block x hx (fun _ h => by cases h)⟩, .inr ⟨_, rfl, rfl⟩⟩
  · obtain rfl : i = n := by omega
    refine (ins_end A i c vb 0 1 cs vs w hnc hc hn hm hl hlies hvl hv1).mono ?_
    rintro e w' ⟨A', c', rfl, q0, q1, q2, q3, q4⟩
    rw [List.take_of_length_le (by omega), List.drop_eq_nil_of_le (by omega), List.append_nil]
    exact ⟨A', c', rfl, q0, q1, q2, q3, q4⟩
theorem place_calls (xs : List Ent) (nm : ByteArray) (hr : Rises xs) (hl : xs.length ≤ 1000000000000) {w : World} {R : Nat → Prop} {v : Value} (hv : vrep w R (.slice EntT) xs v) :
    Calls Tryz.prog 87 #[v, .string nm] w fun e w' => e = .returned (.tuple #[.int .i64 (posD xs nm : Int), .bool (atD xs nm)]) ∧ But w none w' := by
  have hc : dplaceC [.val ⟨.slice EntT, xs⟩, .val ⟨.str, nm⟩] = some ⟨.tup [⟨.int .i64, (posD xs nm : Int)⟩, ⟨.bool, atD xs nm⟩], []⟩ := by
    rw [dplaceC_eq, if_pos ⟨hr, hl⟩]
  have hrd : Ready w (fun b => R b ∧ True) [.val ⟨.slice EntT, xs⟩, .val ⟨.str, nm⟩] [v, .string nm] :=
    ⟨⟨v, _, rfl, vrep_mono (Nat.le_refl _) (fun b _ h => ⟨h, trivial⟩) (fun _ _ _ => rfl) hv, .string nm, [], rfl, mk_str _ _ _, rfl⟩, List.nodup_nil, fun b hb => by cases hb⟩
  refine (goes_calls Tryz.func87 (by kernel_rfl) (by kernel_rfl) (dplace_ok _ _ _ _ _ hc hrd)).mono ?_
  rintro e w' ⟨v', rfl, h⟩
  obtain ⟨vs, hvs, h1⟩ := (show ∃ vs, v' = .tuple vs.toArray ∧ tupRep w' _ [⟨.int .i64, (posD xs nm : Int)⟩, ⟨.bool, atD xs nm⟩] vs from h.res)
  obtain ⟨a, r, rfl, ha, b, r2, rfl, hb, rfl⟩ := h1
  have ha := vrep_int ha
  have hb := vrep_bool hb
  subst ha hb hvs
  exact ⟨rfl, ⟨h.kept.os, h.kept.tape, h.kept.output, h.kept.size, fun x hx _ => h.kept.block x hx (fun hb => by cases hb)⟩⟩
theorem clone_calls (xs : List Ent) (hl : xs.length ≤ 1000000000000) {w : World} {R : Nat → Prop} {v : Value} (hv : vrep w R (.slice EntT) xs v) :
    Calls Tryz.prog 89 #[v] w fun e w' => ∃ A c cs, e = .returned (.slice A xs.length c) ∧ xs.length ≤ c ∧ c ≤ maxLen ∧ cs.length = xs.length * 2 ∧ (∀ v ∈ cs, v.oneCell' = true) ∧ (∀ w R, repList (rep w R EntT) xs cs) ∧
      ((A = none ∧ c = 0) ∨ ∃ ad, A = some ad ∧ Mem w' ad (c * 2) cs) ∧ (∀ ad, A = some ad → w.heap.size ≤ ad.block) ∧ But w none w' := by
  have hc : dcloneEC [.val ⟨.slice EntT, xs⟩] = some ⟨.own EntT xs, []⟩ := by rw [dcloneEC_eq, if_pos hl]
  have hrd : Ready w R [.val ⟨.slice EntT, xs⟩] [v] := ⟨⟨v, [], rfl, hv, rfl⟩, List.nodup_nil, fun b hb => by cases hb⟩
  refine (goes_calls Tryz.func89 (by kernel_rfl) (by kernel_rfl) (dcloneE_ok _ _ _ _ _ hc hrd)).mono ?_
  rintro e w' ⟨v', rfl, h⟩
  obtain ⟨A, c, cs, rfl, g1, g2, g3, g4⟩ := (show OwnS w' _ EntT xs v' from h.res)
  refine ⟨A, c, cs, rfl, g1, g2, g3.length (fun x c hx => rep_len EntT hx), rep_cells (.arr xs.length EntT) (x := xs) ⟨rfl, g3⟩, fun w R => repList_near (by rfl) g3, g4, fun ad e => ?_, ⟨h.kept.os, h.kept.tape, h.kept.output, h.kept.size, fun x hx _ => h.kept.block x hx (fun hb => by cases hb)⟩⟩
  subst e
  rcases h.fresh ad.block rfl with h1 | ⟨_, h1⟩
  · exact h1
  · cases h1
theorem dwith_core (xs : List Ent) (s : ByteArray) (k : Int) (hr : Rises xs) (hl : xs.length ≤ 1000000000) {v : Value} {w : World} {R : Nat → Prop} (hv : vrep w R (.slice EntT) xs v) :
    Calls Tryz.prog 68 #[v, .agg #[.string s, .int .i64 k]] w fun e w' => ∃ A c cs, e = .returned (.tuple #[.slice A (withD xs (s, k, ())).1.length c, .bool (withD xs (s, k, ())).2]) ∧ (withD xs (s, k, ())).1.length ≤ c ∧ c ≤ maxLen ∧ (∀ w R, repList (rep w R EntT) (withD xs (s, k, ())).1 cs) ∧
      ((A = none ∧ c = 0) ∨ ∃ ad, A = some ad ∧ Mem w' ad (c * 2) cs) ∧ (∀ ad, A = some ad → w.heap.size ≤ ad.block) ∧ But w none w' := by
  have mixed : Tryz.prog.follows .mixedOrders = true := by kernel_rfl
  have hbox : But w none (w.alloc (.cells #[.string s, .int .i64 k] 84)) := but_alloc _ _ _
  have hv1 : vrep (w.alloc (.cells #[.string s, .int .i64 k] 84)) R (.slice EntT) xs v := vrep_mono hbox.size (fun _ _ h => h) (fun b hb _ => hbox.block b hb (fun _ h => by cases h)) hv
  have c1 := place_calls xs s hr (by omega) hv1
  go_enter Tryz.func68, Tryz.ntmps68
  go_wp2_with fail
  refine c1.mono ?_
  rintro _ w2 ⟨rfl, b2⟩
  have bw2 : But w none w2 := hbox.trans b2
  have hv2 : vrep w2 R (.slice EntT) xs v := vrep_mono bw2.size (fun _ _ h => h) (fun b hb _ => bw2.block b hb (fun _ h => by cases h)) hv
  have hbx2 : w2.heap[w.heap.size]? = some (.cells #[.string s, .int .i64 k] 84) := by
    rw [b2.block w.heap.size (by simp) (fun _ h => by cases h)]
    exact (MapKept.heap_alloc w _).1
  have hlt2 : w.heap.size < w2.heap.size := (Array.getElem?_eq_some_iff.1 hbx2).1
  go_wp2_with fail
  refine (clone_calls xs (by omega) hv2).mono ?_
  rintro _ w3 ⟨A, c, cs, rfl, g1, g2, g3, g4, g5, g6, g7, b3⟩
  have bw3 : But w none w3 := bw2.trans b3
  have hbx3 : w3.heap[w.heap.size]? = some (.cells #[.string s, .int .i64 k] 84) := by
    rw [b3.block w.heap.size hlt2 (fun _ h => by cases h), hbx2]
  have hc0 : w3.cell? ⟨w.heap.size, 0, none⟩ = some (.string s) := by simp [World.cell?, hbx3]
  have hc1 : w3.cell? ⟨w.heap.size, 1, none⟩ = some (.int .i64 k) := by simp [World.cell?, hbx3]
  cases hat : atD xs s with
  | true =>
    go_wp2_with fail
    go_ret2
    have hw : withD xs (s, k, ()) = (xs, false) := by rw [withD, if_pos (by rw [find_at hr]; exact hat)]
    rw [hw]
    exact ⟨A, c, cs, rfl, g1, g2, g5, g6, fun ad e => Nat.le_trans bw2.size (g7 ad e), bw3⟩
  | false =>
    go_wp2_with fail
    have b4 : But w3 none (w3.alloc (.cells #[.string s, .int .i64 k] 84)) := but_alloc _ _ _
    have hm4 : (A = none ∧ c = 0) ∨ ∃ ad, A = some ad ∧ Mem (w3.alloc (.cells #[.string s, .int .i64 k] 84)) ad (c * 2) cs := by
      rcases g6 with g6 | ⟨ad, e, g6⟩
      · exact .inl g6
      · exact .inr ⟨ad, e, g6.move (b4.block _ g6.block_lt (fun _ h => by cases h))⟩
    have hA4 : ∀ ad, A = some ad → w3.heap.size ≠ ad.block := fun ad e => by
      rcases g6 with ⟨g6, _⟩ | ⟨ad', e', g6⟩
      · rw [g6] at e; cases e
      · rw [e'] at e
        injection e with e
        subst e
        have := g6.block_lt
        omega
    have hp := (posD_spec xs s).1
    refine (ins_all A xs.length c (posD xs s) w3.heap.size cs [.string s, .int .i64 k] 84 _ hp g1 g2 (by omega) hm4 g3 g4 (MapKept.heap_alloc w3 _).1 hA4 rfl (by simp [Value.oneCell'])).mono ?_
    rintro _ w5 ⟨A', c', rfl, k1, k2, k3, k4, k5⟩
    go_wp2_with fail
    go_ret2
    have hnone := find_none_at hr hat
    have hw : withD xs (s, k, ()) = (xs.take (posD xs s) ++ (s, k, ()) :: xs.drop (posD xs s), true) := by
      rw [withD, if_neg (by rw [find_at hr, hat]; decide), ins_at hnone]
    have hlen : (xs.take (posD xs s) ++ (s, k, ()) :: xs.drop (posD xs s)).length = xs.length + 1 := by
      rw [List.length_append, List.length_cons, List.length_take, List.length_drop]; omega
    rw [hw]
    simp only [hlen]
    refine ⟨A', c', _, rfl, k1, k2, fun w R => ?_, k3, fun ad e => ?_, ?_⟩
    · have e1 := repList_take (g5 w R) (posD xs s)
      have e2 := (g5 w R).drop (fun x c hx => rep_len EntT hx) (posD xs s)
      have e3 : repList (rep w R EntT) [((s, k, ()) : Ent)] [.string s, .int .i64 k] := repList.one ⟨[.string s], [.int .i64 k], rfl, rfl, [.int .i64 k], [], rfl, rfl, rfl⟩
      have := (e1.append e3).append e2
      rw [List.append_assoc] at this
      exact this
    · rcases k5 with rfl | ⟨ad', e', h⟩
      · have := g7 ad e
        exact Nat.le_trans bw2.size this
      · rw [e'] at e
        injection e with e
        subst e
        rw [h]
        exact Nat.le_trans bw3.size b4.size
    · refine ⟨k4.os.trans bw3.os, k4.tape.trans bw3.tape, k4.output.trans bw3.output, Nat.le_trans bw3.size (Nat.le_trans b4.size k4.size), fun x hx _ => ?_⟩
      rw [k4.block x (Nat.lt_of_lt_of_le hx (Nat.le_trans bw3.size b4.size)) (fun ad e => ?_), b4.block x (Nat.lt_of_lt_of_le hx bw3.size) (fun _ h => by cases h), bw3.block x hx (fun _ h => by cases h)]
      have := Nat.le_trans bw2.size (g7 ad e)
      omega
end Go.Proofs.YtodkmhamaahjmaaGreatDoor

/- dir: one name more: the contract. -/
set_option maxRecDepth 10000
set_option maxHeartbeats 1000000
set_option linter.unusedSimpArgs false
set_option linter.unusedVariables false
set_option pp.deepTerms.threshold 14
namespace Go.Proofs.YtodkmhamaahjmaaGreatDoor
open Go.Tm Go.IntWalk
/-- The contract of dir.With. -/
def dwithDC : Con := conN [(.v, .slice EntT), (.v, EntT)] fun (l, e, _) => if Rises l ∧ l.length ≤ 1000000000 then some ⟨.tup [⟨.slice EntT, (withD l e).1⟩, ⟨.bool, (withD l e).2⟩], []⟩ else none
theorem dwithDC_eq {l : List (Ty.den (EntT))} {e : Ty.den (EntT)} : dwithDC [.val ⟨.slice EntT, l⟩, .val ⟨EntT, e⟩] = if Rises l ∧ l.length ≤ 1000000000 then some ⟨.tup [⟨.slice EntT, (withD l e).1⟩, ⟨.bool, (withD l e).2⟩], []⟩ else none := conN_mk (ks := [(.v, .slice EntT), (.v, EntT)]) (l, e, ())
def ΓdwithD : Cons := cons []
theorem dwith_goes (xs : List Ent) (e : Ent) (hr : Rises xs) (hl : xs.length ≤ 1000000000) {vals : List Value} {w : World} {R : Nat → Prop} (hrd : Ready w R [.val ⟨.slice EntT, xs⟩, .val ⟨EntT, e⟩] vals) :
    Goes Tryz.prog 68 vals w (.tup [⟨.slice EntT, (withD xs e).1⟩, ⟨.bool, (withD xs e).2⟩]) (After w R [.val ⟨.slice EntT, xs⟩, .val ⟨EntT, e⟩] vals ⟨.tup [⟨.slice EntT, (withD xs e).1⟩, ⟨.bool, (withD xs e).2⟩], []⟩) := by
  obtain ⟨s, k, ⟨⟩⟩ := e
  obtain ⟨hrep, hnd, hap⟩ := hrd
  obtain ⟨v1, r1, rfl, hv1, v2, r2, rfl, hv2, rfl⟩ := hrep
  have hv1 : vrep w R (.slice EntT) xs v1 := hv1
  have hv2 : v2 = .agg #[.string s, .int .i64 k] := by
    obtain ⟨cs, h, rfl⟩ := hv2
    obtain ⟨c1, c2, rfl, h1, c3, c4, rfl, h3, h4⟩ := h
    have h1 : c1 = [.string s] := h1
    have h3 : c3 = [.int .i64 k] := h3
    have h4 : c4 = [] := h4
    subst h1 h3 h4
    rfl
  subst hv2
  refine .inl ⟨_, _, w, enters Tryz.func68 (by kernel_rfl) (by kernel_rfl) _ _, (dwith_core xs s k hr hl hv1).mono ?_⟩
  rintro _ w' ⟨A, c, cs, rfl, k1, k2, k3, k4, k5, k6⟩
  refine ⟨_, rfl, ⟨k6.os, k6.tape, k6.output, k6.size, fun x hx _ => k6.block x hx (fun _ h => by cases h)⟩, (fun x hx => by cases hx), ⟨[_, _], rfl, _, _, rfl, ⟨_, ⟨A, c, rfl, k1, k2, ?_⟩, rfl⟩, _, _, rfl, ⟨_, rfl, rfl⟩, rfl⟩, ⟨_, _, rfl, _, _, rfl, rfl⟩⟩
  rcases k4 with ⟨rfl, rfl⟩ | ⟨ad, rfl, hm⟩
  · exact .inl (List.eq_nil_of_length_eq_zero (Nat.le_zero.1 k1))
  · exact .inr ⟨ad, cs, rfl, ⟨.inr (k5 ad rfl), fun h => by cases h⟩, hm.block_lt, k3 _ _, hm.lies⟩
theorem dwithD_ok : ConOK Tryz.prog 68 dwithDC := by
  intro args out vals w R h hrd
  obtain ⟨x, e, h1⟩ := conN_inv h
  clear h
  obtain ⟨l, e0, x0⟩ := x
  subst e
  replace h1 : (if Rises l ∧ List.length l ≤ 1000000000 then some (⟨.tup [⟨.slice EntT, (withD l e0).1⟩, ⟨.bool, (withD l e0).2⟩], []⟩ : Out) else none) = some out := h1
  split at h1
  case isFalse => cases h1
  rename_i hr
  injection h1 with h1
  subst h1
  exact dwith_goes l e0 hr.1 hr.2 hrd
end Go.Proofs.YtodkmhamaahjmaaGreatDoor
