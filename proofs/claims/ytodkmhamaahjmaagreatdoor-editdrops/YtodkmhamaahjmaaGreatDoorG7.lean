/- Texts joined: EditA, EditB, EditC, EditD. -/
import Derived.Test.YtodkmhamaahjmaaGreatDoorOwn
import Derived.Test.YtodkmhamaahjmaaGreatDoorTree1
import Derived.Test.YtodkmhamaahjmaaGreatDoorG6
/- edit: a tree that is worked at: on the machine. -/
set_option maxRecDepth 100000
set_option maxHeartbeats 4000000
set_option linter.unusedSimpArgs false
set_option linter.unusedVariables false
set_option pp.deepTerms.threshold 20
namespace Go.Proofs.YtodkmhamaahjmaaGreatDoor
open Go.Tm Go.IntWalk Go.RowKit
/-- A tree's cells. -/
def cellsT : List Node → List Value
  | [] => []
  | n :: r => .int .i64 n.1 :: .int .i64 n.2.1 :: .string n.2.2.1 :: cellsT r
theorem cellsT_len : ∀ t : List Node, (cellsT t).length = t.length * 3
  | [] => rfl
  | n :: r => by simp only [cellsT, List.length_cons, cellsT_len r]; omega
theorem cellsT_rep {w : World} {R : Nat → Prop} : ∀ t : List Node, repList (rep w R NodeT) t (cellsT t)
  | [] => rfl
  | n :: r => ⟨[.int .i64 n.1, .int .i64 n.2.1, .string n.2.2.1], cellsT r, rfl, ⟨[_], [_, _], rfl, rfl, [_], [_], rfl, rfl, [_], [], rfl, rfl, rfl⟩, cellsT_rep r⟩
theorem rep_cellsT {w : World} {R : Nat → Prop} : ∀ {t : List Node} {cs : List Value}, repList (rep w R NodeT) t cs → cs = cellsT t
  | [], _, h => h
  | n :: r, _, ⟨c1, c2, e, hn, h2⟩ => by
    obtain ⟨d1, d2, rfl, r1, d3, d4, rfl, r3, d5, d6, rfl, r5, r6⟩ := hn
    have r1 : d1 = [.int .i64 n.1] := r1
    have r3 : d3 = [.int .i64 n.2.1] := r3
    have r5 : d5 = [.string n.2.2.1] := r5
    have r6 : d6 = [] := r6
    have h2 := rep_cellsT h2
    rw [e, r1, r3, r5, r6, h2]; rfl
theorem cellsT_at : ∀ {t : List Node} {k : Nat} (hk : k < t.length), (cellsT t)[k * 3]? = some (.int .i64 (t[k]).1) ∧ (cellsT t)[k * 3 + 1]? = some (.int .i64 (t[k]).2.1) ∧ (cellsT t)[k * 3 + 2]? = some (.string (t[k]).2.2.1)
  | n :: r, 0, _ => ⟨rfl, rfl, rfl⟩
  | n :: r, k + 1, h => by
    have ih := cellsT_at (t := r) (k := k) (by simpa using h)
    have e : ∀ j, (cellsT (n :: r))[(k + 1) * 3 + j]? = (cellsT r)[k * 3 + j]? := fun j => by
      rw [show (k + 1) * 3 + j = (k * 3 + j) + 1 + 1 + 1 by omega]; rfl
    exact ⟨(e 0).trans ih.1, (e 1).trans ih.2.1, (e 2).trans ih.2.2⟩
theorem cellsT_set : ∀ {t : List Node} {k : Nat} (hk : k < t.length) (a b : Int) (s : ByteArray), (((cellsT t).set (k * 3) (.int .i64 a)).set (k * 3 + 1) (.int .i64 b)).set (k * 3 + 2) (.string s) = cellsT (t.set k (a, b, s, ()))
  | n :: r, 0, _, _, _, _ => rfl
  | n :: r, k + 1, h, a, b, s => by
    have ih := cellsT_set (t := r) (k := k) (by simpa using h) a b s
    have e1 : (k + 1) * 3 = k * 3 + 1 + 1 + 1 := by omega
    have e2 : (k + 1) * 3 + 1 = (k * 3 + 1) + 1 + 1 + 1 := by omega
    have e3 : (k + 1) * 3 + 2 = (k * 3 + 2) + 1 + 1 + 1 := by omega
    rw [e3, e2, e1]
    simp only [cellsT, List.set_cons_succ, ih]
theorem cellsT_set2 {t : List Node} {k : Nat} (hk : k < t.length) (s : ByteArray) : (cellsT t).set (k * 3 + 2) (.string s) = cellsT (t.set k ((t[k]).1, (t[k]).2.1, s, ())) := by
  rw [← cellsT_set hk]
  obtain ⟨h0, h1, h2⟩ := cellsT_at hk
  have a0 : (cellsT t).set (k * 3) (.int .i64 (t[k]).1) = cellsT t := List.ext_getElem? fun i => by
    rw [List.getElem?_set]
    split
    · rename_i h; subst h; rw [h0]; split
      · rfl
      · rename_i h'; rw [List.getElem?_eq_none (by omega)] at h0; cases h0
    · rfl
  have a1 : (cellsT t).set (k * 3 + 1) (.int .i64 (t[k]).2.1) = cellsT t := List.ext_getElem? fun i => by
    rw [List.getElem?_set]
    split
    · rename_i h; subst h; rw [h1]; split
      · rfl
      · rename_i h'; rw [List.getElem?_eq_none (by omega)] at h1; cases h1
    · rfl
  rw [a0, a1]
theorem ovr_set {cs : List Value} {o : Nat} (h : o < cs.length) (v : Value) : ovr cs o [v] = cs.set o v := by
  unfold ovr
  rw [List.set_eq_take_append_cons_drop, if_pos h, List.append_assoc]
  rfl
/-- A tree that is worked at: its block, and a row of its own. -/
def WK (w0 w : World) (b : Nat) (ad : Addr) (c : Nat) (t : List Node) (own : Bool) : Prop :=
  w.heap[b]? = some (.cells #[.slice (some ad) 9 c, .bool own] 92) ∧ FreshP w0 w NodeT t (some ad) c (cellsT t) ∧ t.length = 9 ∧ ad.block ≠ b ∧ w0.heap.size ≤ b
theorem WK.move {w0 w w' : World} {b : Nat} {ad : Addr} {c : Nat} {t : List Node} {own : Bool} (h : WK w0 w b ad c t own) (hb : But w none w') : WK w0 w' b ad c t own :=
  ⟨but_box h.1 hb, h.2.1.move (fun a e => hb.block _ (freshp_lt h.2.1 e).2 (fun _ h => by cases h)), h.2.2⟩
theorem WK.cells {w0 w : World} {b : Nat} {ad : Addr} {c : Nat} {t : List Node} {own : Bool} (h : WK w0 w b ad c t own) :
    w.cell? ⟨b, 0, none⟩ = some (.slice (some ad) 9 c) ∧ w.cell? ⟨b, 1, none⟩ = some (.bool own) ∧ b < w.heap.size := box2 h.1
theorem WK.vrep {w0 w : World} {b : Nat} {ad : Addr} {c : Nat} {t : List Node} {own : Bool} (h : WK w0 w b ad c t own) : Tm.vrep w (fun _ => True) TreeT t (.slice (some ad) 9 c) := by
  obtain ⟨_, h2, h3, _⟩ := h
  have := freshp_rep (w := w0) (R' := fun _ => True) (fun _ _ => trivial) h2
  rw [h3] at this
  exact ⟨_, this, rfl⟩
theorem WK.node {w0 w : World} {b : Nat} {ad : Addr} {c : Nat} {t : List Node} {own : Bool} (h : WK w0 w b ad c t own) {k : Nat} (hk : k < 9) :
    ∃ ab ao, ad = ⟨ab, ao, none⟩ ∧ ab < w.heap.size ∧ ab ≠ b ∧ w.cell? ⟨ab, ao + k * 3, none⟩ = some (.int .i64 (nodeT t ((k : Int) + 1)).1) ∧ w.cell? ⟨ab, ao + k * 3 + 1, none⟩ = some (.int .i64 (nodeT t ((k : Int) + 1)).2.1) ∧ w.cell? ⟨ab, ao + k * 3 + 2, none⟩ = some (.string (nodeT t ((k : Int) + 1)).2.2.1) ∧
      w.frozen? ⟨ab, ao + k * 3, none⟩ = false ∧ w.frozen? ⟨ab, ao + k * 3 + 1, none⟩ = false ∧ w.frozen? ⟨ab, ao + k * 3 + 2, none⟩ = false := by
  obtain ⟨_, ⟨h2, h3, h4, h5, h6, h7⟩, h9, hn, _⟩ := h
  rcases h7 with ⟨h7, _⟩ | ⟨ad', e, hm, hg⟩
  · cases h7
  injection e with e; subst e
  obtain ⟨ab, ao, sp⟩ := ad
  obtain rfl : sp = none := hm.out.1
  have hkt : k < t.length := by omega
  obtain ⟨c0, c1, c2⟩ := cellsT_at hkt
  have en : nodeT t ((k : Int) + 1) = t[k] := by
    unfold nodeT
    rw [show ((k : Int) + 1 - 1).toNat = k by omega, List.getD_eq_getElem?_getD, List.getElem?_eq_getElem hkt]; rfl
  rw [en]
  have l0 := hm.lies _ _ c0
  have l1 := hm.lies _ _ c1
  have l2 := hm.lies _ _ c2
  rw [Addr.add_lit] at l0 l1 l2
  have hc : k * 3 + 2 < c * NodeT.sz := by show _ < c * 3; omega
  have f0 := (hm.cell (k * 3) (by omega)).2
  have f1 := (hm.cell (k * 3 + 1) (by omega)).2
  have f2 := (hm.cell (k * 3 + 2) (by omega)).2
  exact ⟨ab, ao, rfl, hm.block_lt, hn, l0, by rw [Nat.add_assoc]; exact l1, by rw [Nat.add_assoc]; exact l2, f0, by rw [Nat.add_assoc]; exact f1, by rw [Nat.add_assoc]; exact f2⟩
end Go.Proofs.YtodkmhamaahjmaaGreatDoor

/- edit: no, node, find, entries: on the machine. -/
set_option maxRecDepth 100000
set_option maxHeartbeats 4000000
set_option linter.unusedSimpArgs false
set_option linter.unusedVariables false
set_option pp.deepTerms.threshold 20
namespace Go.Proofs.YtodkmhamaahjmaaGreatDoor
open Go.Tm Go.IntWalk Go.RowKit
/-- Something goes up. -/
def UpE (e : Int) : Ending := .panicked [{ v := .iface 99 (.agg #[.int .i64 e]), recovered := false }]
theorem no_no (e : Int) (w : World) : Calls Tryz.prog 33 #[.bool false, .int .i64 e] w fun en w' => en = .returned (.tuple #[]) ∧ w' = w := by
  go_enter Tryz.func33, Tryz.ntmps33
  go_wp2_with fail
  go_end0
  exact ⟨rfl, rfl⟩
theorem no_yes (e : Int) (w : World) : Calls Tryz.prog 33 #[.bool true, .int .i64 e] w fun en w' => en = UpE e ∧ w' = w := by
  go_enter Tryz.func33, Tryz.ntmps33
  go_wp2_with fail
  exact ⟨rfl, rfl, rfl⟩
theorem node_calls {w0 w : World} {b : Nat} {ab ao : Nat} {c : Nat} {t : List Node} {own : Bool} (h : WK w0 w b ⟨ab, ao, none⟩ c t own) {k : Nat} (hk : k < 9) :
    Calls Tryz.prog 37 #[.pointer (some ⟨b, 0, none⟩), .int .i64 ((k : Int) + 1)] w fun en w' => en = .returned (.pointer (some ⟨ab, ao + k * 3, none⟩)) ∧ w' = w := by
  have mixed : Tryz.prog.follows .mixedOrders = true := by kernel_rfl
  obtain ⟨x0, x1, x2⟩ := h.cells
  have h1 : ¬ ((k : Int) + 1 < 1) := by omega
  have h2 : ¬ (9 < (k : Int) + 1) := by omega
  have hw : IntKind.i64.wrap ((k : Int) + 1 - 1) = (k : Int) := by rw [IntKind.wrap_i64]; omega
  clear h
  go_enter Tryz.func37, Tryz.ntmps37
  go_wp2_with fail
  go_ret
  exact ⟨rfl, rfl⟩
theorem tfind_calls (t : List Node) (p : ByteArray) (own : Bool) (hf : fitT t) (h9 : t.length = 9) (hp : p.size ≤ 1000000000) {w : World} {R : Nat → Prop} {v : Value} (hv : vrep w R TreeT t v) :
    Calls Tryz.prog 74 #[v, .string p, .bool own] w fun e w' => e = .returned (.tuple #[.int .i64 (findT t p own).1, .int .i64 (findT t p own).2]) ∧ But w none w' := by
  have hc : tfindC [.val ⟨TreeT, t⟩, .val ⟨.str, p⟩, .val ⟨.bool, own⟩] = some ⟨.tup [⟨.int .i64, (findT t p own).1⟩, ⟨.int .i64, (findT t p own).2⟩], []⟩ := by rw [tfindC_eq, if_pos ⟨hf, h9, hp⟩]
  have hrd : Ready w R [.val ⟨TreeT, t⟩, .val ⟨.str, p⟩, .val ⟨.bool, own⟩] [v, .string p, .bool own] := ⟨⟨v, _, rfl, hv, _, _, rfl, mk_str _ _ _, _, _, rfl, mk_bool _ _ _, rfl⟩, List.nodup_nil, fun b hb => by cases hb⟩
  refine (goes_calls Tryz.func74 (by kernel_rfl) (by kernel_rfl) (tfind_ok _ _ _ _ _ hc hrd)).mono ?_
  rintro e w' ⟨v', rfl, h⟩
  obtain ⟨vs, hv', u1, r1, e1, hu1, u2, r2, e2, hu2, e3⟩ := h.res
  have hu1 := vrep_int hu1
  have hu2 := vrep_int hu2
  simp only at e3
  subst e3 e2 e1 hu1 hu2
  exact ⟨congrArg Ending.returned hv', kept_but h.kept (fun b hb => by cases hb)⟩
theorem wfind_ok {w0 w : World} {b : Nat} {ad : Addr} {c : Nat} {t : List Node} {own : Bool} (h : WK w0 w b ad c t own) (hf : fitT t) (p : ByteArray) (hp : p.size ≤ 1000000000) (h0 : (findT t p own).2 = 0) :
    Calls Tryz.prog 46 #[.pointer (some ⟨b, 0, none⟩), .string p] w fun en w' => en = .returned (.int .i64 (findT t p own).1) ∧ But w none w' := by
  have mixed : Tryz.prog.follows .mixedOrders = true := by kernel_rfl
  obtain ⟨x0, x1, x2⟩ := h.cells
  have hv := h.vrep
  have h9 := h.2.2.1
  clear h
  go_enter Tryz.func46, Tryz.ntmps46
  go_wp2_with fail
  go_region_with (go_at_call 74; refine (tfind_calls t p own hf h9 hp (vrep_but hv (but_drew _ _))).mono ?_; rintro _ wa ⟨rfl, ba⟩; rw [h0])
  all_goals go_wp2_with fail
  all_goals
    refine (no_no _ _).mono ?_
    rintro _ w2 ⟨rfl, rfl⟩
    go_wp2_with fail
    go_ret
    exact ⟨rfl, (but_drew _ _).trans ba⟩
theorem wfind_no {w0 w : World} {b : Nat} {ad : Addr} {c : Nat} {t : List Node} {own : Bool} (h : WK w0 w b ad c t own) (hf : fitT t) (p : ByteArray) (hp : p.size ≤ 1000000000) (h0 : ¬ (findT t p own).2 = 0) :
    Calls Tryz.prog 46 #[.pointer (some ⟨b, 0, none⟩), .string p] w fun en w' => en = UpE (findT t p own).2 ∧ But w none w' := by
  have mixed : Tryz.prog.follows .mixedOrders = true := by kernel_rfl
  obtain ⟨x0, x1, x2⟩ := h.cells
  have hv := h.vrep
  have h9 := h.2.2.1
  have h0' : ((findT t p own).2 != 0) = true := bne_iff_ne.2 h0
  clear h
  go_enter Tryz.func46, Tryz.ntmps46
  go_wp2_with fail
  go_region_with (go_at_call 74; refine (tfind_calls t p own hf h9 hp (vrep_but hv (but_drew _ _))).mono ?_; rintro _ wa ⟨rfl, ba⟩)
  all_goals go_wp2_with fail
  all_goals
    refine (no_yes _ _).mono ?_
    rintro _ w2 ⟨rfl, rfl⟩
    exact ⟨rfl, rfl, (but_drew _ _).trans ba⟩
end Go.Proofs.YtodkmhamaahjmaaGreatDoor

/- edit: contracts of names and folders, as calls. -/
set_option maxRecDepth 100000
set_option maxHeartbeats 4000000
set_option linter.unusedSimpArgs false
set_option linter.unusedVariables false
set_option pp.deepTerms.threshold 20
namespace Go.Proofs.YtodkmhamaahjmaaGreatDoor
open Go.Tm Go.IntWalk Go.RowKit
theorem ready1 {w : World} {R : Nat → Prop} {t : Ty} {x : t.den} {v : Value} (h : vrep w R t x v) : Ready w R [.val ⟨t, x⟩] [v] := ⟨⟨v, _, rfl, h, rfl⟩, List.nodup_nil, fun b hb => by cases hb⟩
theorem ready2 {w : World} {R : Nat → Prop} {t u : Ty} {x : t.den} {y : u.den} {v z : Value} (h : vrep w R t x v) (k : vrep w R u y z) : Ready w R [.val ⟨t, x⟩, .val ⟨u, y⟩] [v, z] := ⟨⟨v, _, rfl, h, _, _, rfl, k, rfl⟩, List.nodup_nil, fun b hb => by cases hb⟩
/-- A call of values that answers two. -/
theorem calls_two {f : FuncId} {fn : Func} {args : List Arg} {vals : List Value} {w : World} {R : Nat → Prop} {t u : Ty} {x : t.den} {y : u.den} (hf : Tryz.prog.funcs[f]? = some fn) (hname : (fn.name == "runtime.NumGoroutine") = false) (hb : fn.body.isSome = true) (hi : ioBlks args vals = [])
    (h : Goes Tryz.prog f vals w (.tup [⟨t, x⟩, ⟨u, y⟩]) (After w R args vals ⟨.tup [⟨t, x⟩, ⟨u, y⟩], []⟩)) : Calls Tryz.prog f vals.toArray w fun e w' => ∃ v1 v2, e = .returned (.tuple #[v1, v2]) ∧ (∃ R', vrep w' R' t x v1 ∧ vrep w' R' u y v2) ∧ But w none w' := by
  refine (goes_calls hf hname hb h).mono ?_
  rintro e w' ⟨v', rfl, h⟩
  obtain ⟨vs, hv', u1, r1, e1, hu1, u2, r2, e2, hu2, e3⟩ := h.res
  simp only at e3
  subst e3 e2 e1
  exact ⟨u1, u2, congrArg Ending.returned hv', ⟨_, hu1, hu2⟩, kept_but h.kept (fun b hb => by rw [hi] at hb; cases hb)⟩
theorem parts_calls (p : ByteArray) (own : Bool) (hp : p.size ≤ 1000000000) {w : World} :
    Calls Tryz.prog 62 #[.string p, .bool own] w fun e w' => ∃ v1, e = .returned (.tuple #[v1, .bool (partsS p own).2]) ∧ (∃ R', vrep w' R' (.slice .str) (partsS p own).1 v1) ∧ But w none w' := by
  have hc : npartsC [.val ⟨.str, p⟩, .val ⟨.bool, own⟩] = some ⟨.tup [⟨.slice .str, (partsS p own).1⟩, ⟨.bool, (partsS p own).2⟩], []⟩ := by rw [npartsC_eq, if_pos hp]
  refine (calls_two Tryz.func62 (by kernel_rfl) (by kernel_rfl) rfl (nparts_ok _ _ _ _ _ hc (ready2 (R := fun _ => False) (mk_str _ _ _) (mk_bool _ _ _)))).mono ?_
  rintro e w' ⟨v1, v2, rfl, ⟨R', h1, h2⟩, hb⟩
  have h2 := vrep_bool h2
  subst h2
  exact ⟨v1, rfl, ⟨R', h1⟩, hb⟩
theorem path_calls (l : List ByteArray) (hl : l.length ≤ 1000) (hs : smallL l) {w : World} {R : Nat → Prop} {v : Value} (hv : vrep w R (.slice .str) l v) :
    Calls Tryz.prog 63 #[v] w fun e w' => e = .returned (.string (pathS l)) ∧ But w none w' := by
  have hc : npathC [.val ⟨.slice .str, l⟩] = some ⟨.val ⟨.str, pathS l⟩, []⟩ := by rw [npathC_eq, if_pos ⟨hl, hs⟩]
  refine (goes_calls Tryz.func63 (by kernel_rfl) (by kernel_rfl) (npath_ok _ _ _ _ _ hc (ready1 hv))).mono ?_
  rintro e w' ⟨v', rfl, h⟩
  have hu := vrep_str h.res
  subst hu
  exact ⟨rfl, kept_but h.kept (fun b hb => by cases hb)⟩
theorem take_calls (s : ByteArray) (hs : s.size ≤ 100000000000) {w : World} :
    Calls Tryz.prog 88 #[.string s] w fun e w' => ∃ v1, e = .returned (.tuple #[v1, .bool (takeD s).2]) ∧ (∃ R', vrep w' R' (.slice EntT) (takeD s).1 v1) ∧ But w none w' := by
  have hc : dtakeC [.val ⟨.str, s⟩] = some ⟨.tup [⟨.slice EntT, (takeD s).1⟩, ⟨.bool, (takeD s).2⟩], []⟩ := by rw [dtakeC_eq, if_pos hs]
  refine (calls_two Tryz.func88 (by kernel_rfl) (by kernel_rfl) rfl (dtake_ok _ _ _ _ _ hc (ready1 (R := fun _ => False) (mk_str _ _ _)))).mono ?_
  rintro e w' ⟨v1, v2, rfl, ⟨R', h1, h2⟩, hb⟩
  have h2 := vrep_bool h2
  subst h2
  exact ⟨v1, rfl, ⟨R', h1⟩, hb⟩
theorem findD_calls (l : List Ent) (nm : ByteArray) (hr : Rises l) (hl : l.length ≤ 1000000000000) {w : World} {R : Nat → Prop} {v : Value} (hv : vrep w R (.slice EntT) l v) :
    Calls Tryz.prog 64 #[v, .string nm] w fun e w' => e = .returned (.tuple #[.int .i64 (findD l nm).1, .bool (findD l nm).2]) ∧ But w none w' := by
  have hc : dfindDC [.val ⟨.slice EntT, l⟩, .val ⟨.str, nm⟩] = some ⟨.tup [⟨.int .i64, (findD l nm).1⟩, ⟨.bool, (findD l nm).2⟩], []⟩ := by rw [dfindDC_eq, if_pos ⟨hr, hl⟩]
  refine (calls_two Tryz.func64 (by kernel_rfl) (by kernel_rfl) rfl (dfindD_ok _ _ _ _ _ hc (ready2 hv (mk_str _ _ _)))).mono ?_
  rintro e w' ⟨v1, v2, rfl, ⟨R', h1, h2⟩, hb⟩
  have h1 := vrep_int h1
  have h2 := vrep_bool h2
  subst h1 h2
  exact ⟨rfl, hb⟩
theorem putD_calls (l : List Ent) (hl : l.length ≤ 1000000000000) (hs : ∀ e ∈ l, e.1.size ≤ 4000000000) {w : World} {R : Nat → Prop} {v : Value} (hv : vrep w R (.slice EntT) l v) :
    Calls Tryz.prog 69 #[v] w fun e w' => e = .returned (.tuple #[.string (putD l).1, .bool (putD l).2]) ∧ But w none w' := by
  have hc : dputC [.val ⟨.slice EntT, l⟩] = some ⟨.tup [⟨.str, (putD l).1⟩, ⟨.bool, (putD l).2⟩], []⟩ := by rw [dputC_eq, if_pos ⟨hl, hs⟩]
  refine (calls_two Tryz.func69 (by kernel_rfl) (by kernel_rfl) rfl (dput_ok _ _ _ _ _ hc (ready1 hv))).mono ?_
  rintro e w' ⟨v1, v2, rfl, ⟨R', h1, h2⟩, hb⟩
  have h1 := vrep_str h1
  have h2 := vrep_bool h2
  subst h1 h2
  exact ⟨rfl, hb⟩
theorem mk_ent (w : World) (R : Nat → Prop) (nm : ByteArray) (i : Int) : vrep w R EntT (nm, i, ()) (.agg #[.string nm, .int .i64 i]) := ⟨[.string nm, .int .i64 i], ⟨[_], [_], rfl, rfl, [_], [], rfl, rfl, rfl⟩, rfl⟩
theorem withD_calls (l : List Ent) (e : Ent) (hr : Rises l) (hl : l.length ≤ 1000000000) {w : World} {R : Nat → Prop} {v : Value} (hv : vrep w R (.slice EntT) l v) :
    Calls Tryz.prog 68 #[v, .agg #[.string e.1, .int .i64 e.2.1]] w fun en w' => ∃ v1, en = .returned (.tuple #[v1, .bool (withD l e).2]) ∧ (∃ R', vrep w' R' (.slice EntT) (withD l e).1 v1) ∧ But w none w' := by
  have hc : dwithDC [.val ⟨.slice EntT, l⟩, .val ⟨EntT, e⟩] = some ⟨.tup [⟨.slice EntT, (withD l e).1⟩, ⟨.bool, (withD l e).2⟩], []⟩ := by rw [dwithDC_eq, if_pos ⟨hr, hl⟩]
  refine (calls_two Tryz.func68 (by kernel_rfl) (by kernel_rfl) rfl (dwithD_ok _ _ _ _ _ hc (ready2 hv (mk_ent _ _ _ _)))).mono ?_
  rintro en w' ⟨v1, v2, rfl, ⟨R', h1, h2⟩, hb⟩
  have h2 := vrep_bool h2
  subst h2
  exact ⟨v1, rfl, ⟨R', h1⟩, hb⟩
theorem lessD_calls (l : List Ent) (nm : ByteArray) (hr : Rises l) (hl : l.length ≤ 1000000000000) {w : World} {R : Nat → Prop} {v : Value} (hv : vrep w R (.slice EntT) l v) :
    Calls Tryz.prog 77 #[v, .string nm] w fun en w' => ∃ v1, en = .returned (.tuple #[v1, .bool (lessD l nm).2]) ∧ (∃ R', vrep w' R' (.slice EntT) (lessD l nm).1 v1) ∧ But w none w' := by
  have hc : dlessDC [.val ⟨.slice EntT, l⟩, .val ⟨.str, nm⟩] = some ⟨.tup [⟨.slice EntT, (lessD l nm).1⟩, ⟨.bool, (lessD l nm).2⟩], []⟩ := by rw [dlessDC_eq, if_pos ⟨hr, hl⟩]
  refine (calls_two Tryz.func77 (by kernel_rfl) (by kernel_rfl) rfl (dlessD_ok _ _ _ _ _ hc (ready2 hv (mk_str _ _ _)))).mono ?_
  rintro en w' ⟨v1, v2, rfl, ⟨R', h1, h2⟩, hb⟩
  have h2 := vrep_bool h2
  subst h2
  exact ⟨v1, rfl, ⟨R', h1⟩, hb⟩
theorem links_calls (t : List Node) (ino : Int) (hf : fitT t) {w : World} {R : Nat → Prop} {v : Value} (hv : vrep w R TreeT t v) :
    Calls Tryz.prog 53 #[v, .int .i64 ino] w fun e w' => e = .returned (.int .i64 (linksT t ino)) ∧ But w none w' := by
  have hc : tlinksC [.val ⟨TreeT, t⟩, .val ⟨.int .i64, ino⟩] = some ⟨.val ⟨.int .i64, linksT t ino⟩, []⟩ := by rw [tlinksC_eq, if_pos hf]
  refine (goes_calls Tryz.func53 (by kernel_rfl) (by kernel_rfl) (tlinks_ok _ _ _ _ _ hc (ready2 hv (mk_int _ _ _ _)))).mono ?_
  rintro e w' ⟨v', rfl, h⟩
  have hu := vrep_int h.res
  subst hu
  exact ⟨rfl, kept_but h.kept (fun b hb => by cases hb)⟩
end Go.Proofs.YtodkmhamaahjmaaGreatDoor

/- edit: entries, taken, put, cut: on the machine. -/
set_option maxRecDepth 100000
set_option maxHeartbeats 4000000
set_option linter.unusedSimpArgs false
set_option linter.unusedVariables false
set_option pp.deepTerms.threshold 20
namespace Go.Proofs.YtodkmhamaahjmaaGreatDoor
open Go.Tm Go.IntWalk Go.RowKit
theorem entries_calls {w0 w : World} {b : Nat} {ad : Addr} {c : Nat} {t : List Node} {own : Bool} (h : WK w0 w b ad c t own) (hf : fitT t) {k : Nat} (hk : k < 9) :
    Calls Tryz.prog 65 #[.pointer (some ⟨b, 0, none⟩), .int .i64 ((k : Int) + 1)] w fun en w' => ∃ v, en = .returned v ∧ (∃ R', vrep w' R' (.slice EntT) (takeD (bodyT t ((k : Int) + 1))).1 v) ∧ But w none w' := by
  have mixed : Tryz.prog.follows .mixedOrders = true := by kernel_rfl
  obtain ⟨ab, ao, rfl, n0, n1, n2, n3, n4, _⟩ := h.node hk
  have hs := fit_body hf ((k : Int) + 1)
  go_enter Tryz.func65, Tryz.ntmps65
  go_wp2_with fail
  refine (node_calls h hk).mono ?_
  rintro _ w1 ⟨rfl, rfl⟩
  clear h
  go_wp2_with fail
  refine (take_calls _ (Nat.le_trans hs (by decide))).mono ?_
  rintro _ w2 ⟨v1, rfl, hv, hb⟩
  go_wp2_with fail
  go_ret
  exact ⟨_, rfl, hv, hb⟩
theorem taken_calls {w0 w : World} {b : Nat} {ad : Addr} {c : Nat} {t : List Node} {own : Bool} (h : WK w0 w b ad c t own) (hf : fitT t) {k : Nat} (hk : k < 9) (nm : ByteArray) :
    Calls Tryz.prog 35 #[.pointer (some ⟨b, 0, none⟩), .agg #[.int .i64 ((k : Int) + 1), .string nm]] w fun en w' => en = .returned (.bool (findD (takeD (bodyT t ((k : Int) + 1))).1 nm).2) ∧ But w none w' := by
  have mixed : Tryz.prog.follows .mixedOrders = true := by kernel_rfl
  have bw0 : But w none (w.alloc (.cells #[.int .i64 ((k : Int) + 1), .string nm] 65)).drew := (but_alloc _ _ _).trans (but_drew _ _)
  have eb0 : (w.alloc (.cells #[.int .i64 ((k : Int) + 1), .string nm] 65)).drew.heap[w.heap.size]? = some (.cells #[.int .i64 ((k : Int) + 1), .string nm] 65) := (MapKept.heap_alloc w _).1
  have h1 := h.move bw0
  clear h
  have hr := takeD_rises (bodyT t ((k : Int) + 1))
  have hl : (takeD (bodyT t ((k : Int) + 1))).1.length ≤ 1000000000000 := Nat.le_trans (takeD_len _) (by decide)
  go_enter Tryz.func35, Tryz.ntmps35
  go_wp2_with fail
  go_region_with (first | (go_at_call 65; refine (entries_calls h1 hf hk).mono ?_; rintro _ wa ⟨va, rfl, ⟨R', hva⟩, ba⟩; obtain ⟨x0, x1, x2⟩ := box2 (but_box eb0 ba)) | (go_at_call 64; refine (findD_calls _ nm hr hl hva).mono ?_; rintro _ wb ⟨rfl, bb⟩))
  all_goals go_wp2_with fail
  all_goals
    go_ret
    exact ⟨rfl, (bw0.trans ba).trans bb⟩
end Go.Proofs.YtodkmhamaahjmaaGreatDoor
