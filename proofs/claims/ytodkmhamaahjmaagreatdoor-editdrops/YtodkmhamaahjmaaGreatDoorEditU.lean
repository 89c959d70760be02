/- edit: what try defers: on the machine. -/
import Derived.Test.YtodkmhamaahjmaaGreatDoorG7
import Derived.Recover
set_option maxRecDepth 100000
set_option maxHeartbeats 4000000
set_option linter.unusedSimpArgs false
set_option linter.unusedVariables false
set_option pp.deepTerms.threshold 30
namespace Go.Proofs.YtodkmhamaahjmaaGreatDoor
open Go.Tm Go.IntWalk Go.RowKit
theorem catch_idle (p q r : Addr) (w : World) :
    CallsD Tryz.prog 60 #[.pointer (some p), .pointer (some q), .pointer (some r)] .returning w fun e u' w' => (∃ v, e = .returned v) ∧ u' = .returning ∧ w' = w := by
  refine callsD_of_wpS Tryz.func60 rfl fun c₀ cs hu => ?_
  apply wpS_seq
  apply wpS_region
  simp [wpOpsS, go_sem, recoverD, hu, Tryz.ntmps60, Exit.thenS]
  refine wpS_of_wp ?_
  go_wp2
  refine ⟨rfl, .returning, ?_, .tuple #[], results_none rfl _ _ _, ⟨_, rfl⟩, rfl, rfl⟩
  rw [← hu]
/-- The contract of slices.Clone[api.Tree,api.Node]. -/
def bcloneC : Con := conN [(.v, TreeT)] fun (l, _) => if l.length ≤ 1000000000000 then some ⟨.own NodeT l, []⟩ else none
theorem bcloneC_eq {l : Ty.den (TreeT)} : bcloneC [.val ⟨TreeT, l⟩] = if l.length ≤ 1000000000000 then some ⟨.own NodeT l, []⟩ else none := conN_mk (ks := [(.v, TreeT)]) (l, ())
def Γbclone : Cons := cons []
theorem bclone_ex (l : Ty.den (TreeT)) (hr : l.length ≤ 1000000000000) : Ex tab Γbclone (Tryz.f61.body.getD .skip) (EndsF tab Tryz.f61.results.toList [.val ⟨TreeT, l⟩] ⟨.own NodeT l, []⟩) (ini [.val ⟨TreeT, l⟩]) := by
  simp only [Tryz.f61, Option.getD_some]
  simp (implicitDefEqProofs := false) (decide := true) (maxSteps := 4000000) [ini]
  have hr : List.length l ≤ 1000000000000 := hr
  omega
theorem bclone_ok : ConOK Tryz.prog 61 bcloneC := by
  refine con_ok tab_ok (Γ := Γbclone) consOK_nil (by kernel_rfl) Tryz.func61 (by kernel_rfl) ?_
  intro args out h
  obtain ⟨x, e, h1⟩ := conN_inv h
  clear h
  obtain ⟨l, x0⟩ := x
  subst e
  replace h1 : (if l.length ≤ 1000000000000 then some ⟨.own NodeT l, []⟩ else none) = some out := h1
  split at h1
  case isFalse => cases h1
  rename_i hr
  injection h1 with h1
  subst h1
  exact ⟨by rw [mkArgs_len]; decide, bclone_ex l hr⟩
theorem cloneT_calls (t : List Node) (h9 : t.length = 9) {w : World} {R : Nat → Prop} {v : Value} (hv : vrep w R TreeT t v) :
    Calls Tryz.prog 61 #[v] w fun e w' => ∃ u, e = .returned u ∧ Fresh1 w w' NodeT t u ∧ But w none w' := by
  have hc : bcloneC [.val ⟨TreeT, t⟩] = some ⟨.own NodeT t, []⟩ := by rw [bcloneC_eq, if_pos (by show t.length ≤ _; omega)]
  have hrd : Ready w R [.val ⟨TreeT, t⟩] [v] := ⟨⟨v, [], rfl, hv, rfl⟩, List.nodup_nil, fun b hb => by cases hb⟩
  refine (goes_calls Tryz.func61 (by kernel_rfl) (by kernel_rfl) (bclone_ok _ _ _ _ _ hc hrd)).mono ?_
  rintro e w' ⟨v', rfl, h⟩
  obtain ⟨h1, h2⟩ := own_fresh (by rfl) rfl rfl h
  exact ⟨v', rfl, h1, h2⟩
theorem asserted (e : Int) (w : World) : (Instr.typeAssert (Value.iface 99 (.agg #[.int .i64 e])) 20 99 true).run Tryz.prog w = .ok (.tuple #[.agg #[.int .i64 e], .bool true]) w := by
  rfl
theorem up_world {w w1 wa : World} {qb rb : Nat} {q0 r0 ev : Value} {T1 T2 : TypeId} {t : List Node} {n : Nat} {A : Option Addr} {c : Nat} {xs : List Value} (hqr : qb ≠ rb) (hn : t.length = n) (hq : w.heap[qb]? = some (.cells #[q0] T1)) (hr : w.heap[rb]? = some (.cells #[r0] T2))
    (b1 : But w none w1) (ba : But w1 none wa) (hf : FreshP w1 wa NodeT t A c xs) :
    ∃ u, ((wa.setCell ⟨qb, 0, none⟩ (.slice A n c)).setCell ⟨rb, 0, none⟩ ev).heap[qb]? = some (.cells #[u] T1) ∧ ((wa.setCell ⟨qb, 0, none⟩ (.slice A n c)).setCell ⟨rb, 0, none⟩ ev).heap[rb]? = some (.cells #[ev] T2) ∧
      Fresh1 w ((wa.setCell ⟨qb, 0, none⟩ (.slice A n c)).setCell ⟨rb, 0, none⟩ ev) NodeT t u ∧ Kept w (fun x => x = qb ∨ x = rb) ((wa.setCell ⟨qb, 0, none⟩ (.slice A n c)).setCell ⟨rb, 0, none⟩ ev) := by
  have lq := (Array.getElem?_eq_some_iff.1 hq).1
  have lr := (Array.getElem?_eq_some_iff.1 hr).1
  have bt := b1.trans ba
  have hf2 := hf.base (w' := w) b1.size
  refine ⟨.slice A n c, box_ne _ _ (box1_set (but_box hq bt) _) hqr, box1_set (box_ne _ _ (but_box hr bt) (fun h => hqr h.symm)) _, ⟨A, c, xs, by rw [hn], hf2.move fun ad e => ?_⟩, ⟨bt.os, bt.tape, bt.output, ?_, fun x hx hl => ?_⟩⟩
  · have h1 := (freshp_lt hf2 e).1
    rw [RowKit.Below.heap_setCell _ _ _ _ (show ad.block ≠ rb by omega), RowKit.Below.heap_setCell _ _ _ _ (show ad.block ≠ qb by omega)]
  · rw [World.size_setCell, World.size_setCell]; exact bt.size
  · rw [RowKit.Below.heap_setCell _ _ _ _ (show x ≠ rb from fun h => hl (.inr h)), RowKit.Below.heap_setCell _ _ _ _ (show x ≠ qb from fun h => hl (.inl h))]
    exact bt.block x hx (fun _ h => by cases h)
theorem catch_up (e : Int) (t : List Node) (h9 : t.length = 9) {pb qb rb : Nat} {w : World} {R : Nat → Prop} {v q0 r0 : Value} (hqr : qb ≠ rb) (hp : w.heap[pb]? = some (.cells #[v] 25)) (hv : vrep w R TreeT t v) (hq : w.heap[qb]? = some (.cells #[q0] 25)) (hr : w.heap[rb]? = some (.cells #[r0] 33)) :
    CallsD Tryz.prog 60 #[.pointer (some ⟨pb, 0, none⟩), .pointer (some ⟨qb, 0, none⟩), .pointer (some ⟨rb, 0, none⟩)] (.panicking [{ v := .iface 99 (.agg #[.int .i64 e]), recovered := false }]) w fun en u' w' => (∃ v, en = .returned v) ∧ u' = .panicking [{ v := .iface 99 (.agg #[.int .i64 e]), recovered := true }] ∧
      ∃ u, w'.heap[qb]? = some (.cells #[u] 25) ∧ w'.heap[rb]? = some (.cells #[.int .i64 e] 33) ∧ Fresh1 w w' NodeT t u ∧ Kept w (fun x => x = qb ∨ x = rb) w' := by
  have mixed : Tryz.prog.follows .mixedOrders = true := by kernel_rfl
  refine callsD_of_wpS Tryz.func60 rfl fun c₀ cs hu => ?_
  apply wpS_seq
  apply wpS_region
  simp [wpOpsS, go_sem, recoverD, hu, Tryz.ntmps60, Exit.thenS]
  refine wpS_of_wp ?_
  clear hu
  have hta : ∀ w, (Instr.typeAssert (Value.iface 99 (.agg #[.int .i64 e])) 20 99 true).run Tryz.prog w = .ok (.tuple #[.agg #[.int .i64 e], .bool true]) w := fun w => asserted e w
  have bw0 : But w none (w.alloc (.cells #[.int .i64 e] 99)).drew := (but_alloc _ _ _).trans (but_drew _ _)
  have eb0 : (w.alloc (.cells #[.int .i64 e] 99)).drew.heap[w.heap.size]? = some (.cells #[.int .i64 e] 99) := (MapKept.heap_alloc w _).1
  have hv1 := vrep_but hv bw0
  have hrq : ¬ rb = qb := fun h => hqr h.symm
  obtain ⟨x1, x2, x3⟩ := box1 hp
  obtain ⟨y1, y2, y3⟩ := box1 hq
  obtain ⟨z1, z2, z3⟩ := box1 hr
  go_wp2
  go_region_with (go_at_call 61; refine (cloneT_calls t h9 hv1).mono ?_; rintro _ wa ⟨u, rfl, hfr, ba⟩; obtain ⟨A, c, xs, rfl, hfp⟩ := hfr; obtain ⟨x0, x1, x2⟩ := box1 (but_box eb0 ba); obtain ⟨y0, y1, y2⟩ := box1 (but_box hq (bw0.trans ba)); obtain ⟨z0, z1, z2⟩ := box1 (but_box hr (bw0.trans ba)))
  all_goals
    refine ⟨rfl, _, rfl, .tuple #[], results_none rfl _ _ _, ⟨_, rfl⟩, rfl, ?_⟩
    exact up_world hqr h9 hq hr bw0 ba hfp
end Go.Proofs.YtodkmhamaahjmaaGreatDoor
