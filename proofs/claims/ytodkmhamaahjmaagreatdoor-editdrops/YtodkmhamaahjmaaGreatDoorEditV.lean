/- edit: try: on the machine. -/
import Derived.Test.YtodkmhamaahjmaaGreatDoorEditU
import Derived.Test.YtodkmhamaahjmaaGreatDoorG8
import Derived.Tactics
import Derived.Tactics2
import Derived.Defers
import Derived.Laws.Pointers
set_option maxRecDepth 100000
set_option maxHeartbeats 4000000
set_option linter.unusedSimpArgs false
set_option linter.unusedVariables false
set_option pp.deepTerms.threshold 30
namespace Go.Proofs.YtodkmhamaahjmaaGreatDoor
open Go.Tm Go.IntWalk Go.RowKit
/-- What a function that is tried does to a tree: it answers, or goes up. -/
def Works (fid : FuncId) (caps : Array Value) (C : Nat → Prop) (w1 : World) (t : List Node) (own : Bool) (G : List Node × Int) : Prop :=
  ∀ (w : World) (b : Nat) (ad : Addr) (c : Nat), But w1 none w → WK w1 w b ad c t own →
    Calls Tryz.prog fid (#[.pointer (some ⟨b, 0, none⟩)] ++ caps) w fun en w' => en = (if G.2 = 0 then .returned (.tuple #[]) else UpE G.2) ∧ (G.2 = 0 → WK w1 w' b ad c G.1 own) ∧ Kept w (fun x => x = ad.block ∨ C x) w'
theorem size_alloc (w : World) (o : Obj) : (w.alloc o).heap.size = w.heap.size + 1 := by
  show (w.heap.push o).size = _
  rw [Array.size_push]
theorem wk_new {w1 wx wa : World} {t : List Node} {own : Bool} {A : Option Addr} {c : Nat} {xs : List Value} (h9 : t.length = 9) (b3 : But w1 none wx) (hfp : FreshP wx wa NodeT t A c xs) (ba : But wx none wa) :
    ∃ ad, A = some ad ∧ WK w1 (wa.alloc (.cells #[.slice A 9 c, .bool own] 92)) wa.heap.size ad c t own ∧ ad.block < wa.heap.size ∧ wx.heap.size ≤ ad.block := by
  obtain ⟨g1, g2, g3, g4, g5, g6⟩ := hfp
  rcases g6 with ⟨_, g6⟩ | ⟨ad, rfl, hm, hg⟩
  · exfalso; omega
  have hb2 := hm.block_lt
  have e0 : (wa.alloc (.cells #[.slice (some ad) 9 c, .bool own] 92)).heap[wa.heap.size]? = some (.cells #[.slice (some ad) 9 c, .bool own] 92) := (MapKept.heap_alloc wa _).1
  have hmv : (wa.alloc (.cells #[.slice (some ad) 9 c, .bool own] 92)).heap[ad.block]? = wa.heap[ad.block]? := (but_alloc wa _ none).block _ hb2 (fun _ h => by cases h)
  refine ⟨ad, rfl, ⟨e0, ⟨g1, g2, cellsT_len t, ?_, fun w R => cellsT_rep t, .inr ⟨ad, rfl, ?_, Nat.le_trans b3.size hg⟩⟩, h9, Nat.ne_of_lt hb2, Nat.le_trans b3.size ba.size⟩, hb2, hg⟩
  · exact rep_cells (w := wa) (R := fun _ => True) (.arr _ NodeT) (x := t) ⟨rfl, cellsT_rep t⟩
  · have := rep_cellsT (g5 wa fun _ => True)
    rw [← this]
    exact hm.move hmv
theorem try_up {fid : FuncId} (hen : ∀ args w, (callFunc fid args).run Tryz.prog w = .ok (.enter fid args) w) {caps : Array Value} {C : Nat → Prop} {w1 : World} {t : List Node} {own : Bool} {G : List Node × Int} (hC : ∀ x, C x → x < w1.heap.size) (h9 : t.length = 9) {R : Nat → Prop} (hCR : ∀ x, C x → ¬ R x) {v : Value} (hv : vrep w1 R TreeT t v) (hG : ¬ G.2 = 0) (hw : Works fid caps C w1 t own G) :
    Calls Tryz.prog 30 #[v, .bool own, .func (.func fid) #[] caps] w1 fun en w' => ∃ u, en = .returned (.tuple #[u, .int .i64 G.2]) ∧ Fresh1 w1 w' NodeT t u ∧ Kept w1 C w' := by
  obtain ⟨A, c, rfl, hc1, hc2⟩ := slice_val hv
  rw [h9] at hv hc1 ⊢
  have hmf : ∀ (fn : Fn) (first cap : Array Value) (w : World), (Instr.makeFunc fn first cap).run Tryz.prog w = .ok (.func fn first cap) w := fun _ _ _ _ => rfl
  have HG : Hid _ := hG
  have HW : Hid _ := hw
  have HV : Hid _ := hv
  have HC : Hid _ := hC
  have HR : Hid _ := hCR
  clear hG hw hv hC hCR
  go_enter_defers Tryz.func30, Tryz.ntmps30
  have b1 : But w1 none (w1.alloc (.cells #[.slice A 9 c] 25)) := but_alloc _ _ _
  have b2 : But w1 none ((w1.alloc (.cells #[.slice A 9 c] 25)).alloc (.cells #[.slice none 0 0] 25)) := b1.trans (but_alloc _ _ _)
  have b3 : But w1 none (((w1.alloc (.cells #[.slice A 9 c] 25)).alloc (.cells #[.slice none 0 0] 25)).alloc (.cells #[.int .i64 0] 33)) := b2.trans (but_alloc _ _ _)
  have e1 : (((w1.alloc (.cells #[.slice A 9 c] 25)).alloc (.cells #[.slice none 0 0] 25)).alloc (.cells #[.int .i64 0] 33)).heap[w1.heap.size]? = some (.cells #[.slice A 9 c] 25) := but_box (but_box (MapKept.heap_alloc w1 _).1 (but_alloc _ _ none)) (but_alloc _ _ none)
  have e2 : (((w1.alloc (.cells #[.slice A 9 c] 25)).alloc (.cells #[.slice none 0 0] 25)).alloc (.cells #[.int .i64 0] 33)).heap[w1.heap.size + 1]? = some (.cells #[.slice none 0 0] 25) := by
    refine but_box ?_ (but_alloc _ _ none)
    have := (MapKept.heap_alloc (w1.alloc (.cells #[.slice A 9 c] 25)) (.cells #[.slice none 0 0] 25)).1
    rwa [size_alloc] at this
  have e3 : (((w1.alloc (.cells #[.slice A 9 c] 25)).alloc (.cells #[.slice none 0 0] 25)).alloc (.cells #[.int .i64 0] 33)).heap[w1.heap.size + 1 + 1]? = some (.cells #[.int .i64 0] 33) := by
    have := (MapKept.heap_alloc ((w1.alloc (.cells #[.slice A 9 c] 25)).alloc (.cells #[.slice none 0 0] 25)) (.cells #[.int .i64 0] 33)).1
    rwa [size_alloc, size_alloc] at this
  go_wp2_with fail
  refine (cloneT_calls t h9 (vrep_but HV.out b3)).mono ?_
  rintro _ wa ⟨u, rfl, ⟨A2, c2, xs, rfl, hfp⟩, ba⟩
  rw [h9]
  go_wp2_with fail
  obtain ⟨ad, rfl, hwk, hab, hax⟩ := wk_new (own := own) h9 b3 hfp ba
  refine (HW.out _ _ _ _ ((b3.trans ba).trans (but_alloc _ _ _)) hwk).mono ?_
  rintro en wb ⟨rfl, _, kb⟩
  rw [if_neg HG.out]
  have s1 : (((w1.alloc (.cells #[.slice A 9 c] 25)).alloc (.cells #[.slice none 0 0] 25)).alloc (.cells #[.int .i64 0] 33)).heap.size = w1.heap.size + 3 := by rw [size_alloc, size_alloc, size_alloc]
  have s2 := ba.size
  have s3 : (wa.alloc (.cells #[.slice (some ad) 9 c2, .bool own] 92)).heap.size = wa.heap.size + 1 := size_alloc _ _
  rw [s1] at hax s2
  have hold : ∀ x, x < w1.heap.size + 3 → ¬ C x → wb.heap[x]? = (((w1.alloc (.cells #[.slice A 9 c] 25)).alloc (.cells #[.slice none 0 0] 25)).alloc (.cells #[.int .i64 0] 33)).heap[x]? := fun x hx hc => by
    rw [kb.block x (by omega) (fun h => h.elim (fun h => by omega) hc), (but_alloc wa (.cells #[.slice (some ad) 9 c2, .bool own] 92) none).block x (by omega) (fun _ h => by cases h)]
    exact ba.block x (by omega) (fun _ h => by cases h)
  have hnC : ∀ x, w1.heap.size ≤ x → ¬ C x := fun x hx hc => by have := HC.out x hc; omega
  have f1 : wb.heap[w1.heap.size]? = some (.cells #[.slice A 9 c] 25) := (hold _ (by omega) (hnC _ (by omega))).trans e1
  have f2 : wb.heap[w1.heap.size + 1]? = some (.cells #[.slice none 0 0] 25) := (hold _ (by omega) (hnC _ (by omega))).trans e2
  have f3 : wb.heap[w1.heap.size + 1 + 1]? = some (.cells #[.int .i64 0] 33) := (hold _ (by omega) (hnC _ (by omega))).trans e3
  have hsz : w1.heap.size ≤ wb.heap.size := by have := kb.size; omega
  have hvb : vrep wb R TreeT t (.slice A 9 c) := vrep_mono hsz (fun _ _ h => h) (fun x hx hr => (hold x (by omega) (fun hc => HR.out x hc hr)).trans (b3.block x hx (fun _ h => by cases h))) HV.out
  refine leaves_cons (f := 60) (args := #[.pointer (some ⟨w1.heap.size, 0, none⟩), .pointer (some ⟨w1.heap.size + 1, 0, none⟩), .pointer (some ⟨w1.heap.size + 1 + 1, 0, none⟩)]) (by simp) (by simp [go_sem]) ?_
  refine (catch_up G.2 t h9 (by omega) f1 hvb f2 f3).mono ?_
  rintro e u' w2 ⟨⟨v, rfl⟩, rfl, u, k1, k2, k3, k4⟩
  obtain ⟨y1, _, _⟩ := box1 k1
  obtain ⟨y2, _, _⟩ := box1 k2
  have hfin : Fresh1 w1 w2 NodeT t u ∧ Kept w1 C w2 := by
    obtain ⟨A3, c3, cs3, e3, hf3⟩ := k3
    refine ⟨⟨A3, c3, cs3, e3, hf3.base hsz⟩, ⟨?_, ?_, ?_, ?_, fun x hx hc => ?_⟩⟩
    · exact k4.os.trans (kb.os.trans ((b3.trans ba).trans (but_alloc _ _ _)).os)
    · exact k4.tape.trans (kb.tape.trans ((b3.trans ba).trans (but_alloc _ _ _)).tape)
    · exact k4.output.trans (kb.output.trans ((b3.trans ba).trans (but_alloc _ _ _)).output)
    · exact Nat.le_trans hsz k4.size
    · rw [k4.block x (by omega) (fun h => h.elim (fun h => by omega) (fun h => by omega)), hold x (by omega) hc]
      exact b3.block x hx (fun _ h => by cases h)
  simp [Leaves, settle, results, Tryz.results30, go_sem, y1, y2]
  exact hfin
theorem try_ok {fid : FuncId} (hen : ∀ args w, (callFunc fid args).run Tryz.prog w = .ok (.enter fid args) w) {caps : Array Value} {C : Nat → Prop} {w1 : World} {t : List Node} {own : Bool} {G : List Node × Int} (hC : ∀ x, C x → x < w1.heap.size) (h9 : t.length = 9) {R : Nat → Prop} (hCR : ∀ x, C x → ¬ R x) {v : Value} (hv : vrep w1 R TreeT t v) (hG : G.2 = 0) (hw : Works fid caps C w1 t own G) :
    Calls Tryz.prog 30 #[v, .bool own, .func (.func fid) #[] caps] w1 fun en w' => ∃ u, en = .returned (.tuple #[u, .int .i64 G.2]) ∧ Fresh1 w1 w' NodeT G.1 u ∧ Kept w1 C w' := by
  obtain ⟨A, c, rfl, hc1, hc2⟩ := slice_val hv
  rw [h9] at hv hc1 ⊢
  have hmf : ∀ (fn : Fn) (first cap : Array Value) (w : World), (Instr.makeFunc fn first cap).run Tryz.prog w = .ok (.func fn first cap) w := fun _ _ _ _ => rfl
  have HG : Hid _ := hG
  have HW : Hid _ := hw
  have HV : Hid _ := hv
  have HC : Hid _ := hC
  have HR : Hid _ := hCR
  clear hG hw hv hC hCR
  go_enter_defers Tryz.func30, Tryz.ntmps30
  have b1 : But w1 none (w1.alloc (.cells #[.slice A 9 c] 25)) := but_alloc _ _ _
  have b2 : But w1 none ((w1.alloc (.cells #[.slice A 9 c] 25)).alloc (.cells #[.slice none 0 0] 25)) := b1.trans (but_alloc _ _ _)
  have b3 : But w1 none (((w1.alloc (.cells #[.slice A 9 c] 25)).alloc (.cells #[.slice none 0 0] 25)).alloc (.cells #[.int .i64 0] 33)) := b2.trans (but_alloc _ _ _)
  have e1 : (((w1.alloc (.cells #[.slice A 9 c] 25)).alloc (.cells #[.slice none 0 0] 25)).alloc (.cells #[.int .i64 0] 33)).heap[w1.heap.size]? = some (.cells #[.slice A 9 c] 25) := but_box (but_box (MapKept.heap_alloc w1 _).1 (but_alloc _ _ none)) (but_alloc _ _ none)
  have e2 : (((w1.alloc (.cells #[.slice A 9 c] 25)).alloc (.cells #[.slice none 0 0] 25)).alloc (.cells #[.int .i64 0] 33)).heap[w1.heap.size + 1]? = some (.cells #[.slice none 0 0] 25) := by
    refine but_box ?_ (but_alloc _ _ none)
    have := (MapKept.heap_alloc (w1.alloc (.cells #[.slice A 9 c] 25)) (.cells #[.slice none 0 0] 25)).1
    rwa [size_alloc] at this
  have e3 : (((w1.alloc (.cells #[.slice A 9 c] 25)).alloc (.cells #[.slice none 0 0] 25)).alloc (.cells #[.int .i64 0] 33)).heap[w1.heap.size + 1 + 1]? = some (.cells #[.int .i64 0] 33) := by
    have := (MapKept.heap_alloc ((w1.alloc (.cells #[.slice A 9 c] 25)).alloc (.cells #[.slice none 0 0] 25)) (.cells #[.int .i64 0] 33)).1
    rwa [size_alloc, size_alloc] at this
  go_wp2_with fail
  refine (cloneT_calls t h9 (vrep_but HV.out b3)).mono ?_
  rintro _ wa ⟨u, rfl, ⟨A2, c2, xs, rfl, hfp⟩, ba⟩
  rw [h9]
  go_wp2_with fail
  obtain ⟨ad, rfl, hwk, hab, hax⟩ := wk_new (own := own) h9 b3 hfp ba
  refine (HW.out _ _ _ _ ((b3.trans ba).trans (but_alloc _ _ _)) hwk).mono ?_
  rintro en wb ⟨rfl, hwk2, kb⟩
  rw [if_pos HG.out]
  replace hwk2 := hwk2 HG.out
  have s1 : (((w1.alloc (.cells #[.slice A 9 c] 25)).alloc (.cells #[.slice none 0 0] 25)).alloc (.cells #[.int .i64 0] 33)).heap.size = w1.heap.size + 3 := by rw [size_alloc, size_alloc, size_alloc]
  have s2 := ba.size
  have s3 : (wa.alloc (.cells #[.slice (some ad) 9 c2, .bool own] 92)).heap.size = wa.heap.size + 1 := size_alloc _ _
  rw [s1] at hax s2
  have hold : ∀ x, x < w1.heap.size + 3 → ¬ C x → wb.heap[x]? = (((w1.alloc (.cells #[.slice A 9 c] 25)).alloc (.cells #[.slice none 0 0] 25)).alloc (.cells #[.int .i64 0] 33)).heap[x]? := fun x hx hc => by
    rw [kb.block x (by omega) (fun h => h.elim (fun h => by omega) hc), (but_alloc wa (.cells #[.slice (some ad) 9 c2, .bool own] 92) none).block x (by omega) (fun _ h => by cases h)]
    exact ba.block x (by omega) (fun _ h => by cases h)
  have hnC : ∀ x, w1.heap.size ≤ x → ¬ C x := fun x hx hc => by have := HC.out x hc; omega
  have f1 : wb.heap[w1.heap.size]? = some (.cells #[.slice A 9 c] 25) := (hold _ (by omega) (hnC _ (by omega))).trans e1
  have f2 : wb.heap[w1.heap.size + 1]? = some (.cells #[.slice none 0 0] 25) := (hold _ (by omega) (hnC _ (by omega))).trans e2
  have f3 : wb.heap[w1.heap.size + 1 + 1]? = some (.cells #[.int .i64 0] 33) := (hold _ (by omega) (hnC _ (by omega))).trans e3
  have hsz : w1.heap.size ≤ wb.heap.size := by have := kb.size; omega
  obtain ⟨x0, _, x2⟩ := hwk2.cells
  obtain ⟨y0, y1, y2⟩ := box1 f2
  obtain ⟨z0, z1, z2⟩ := box1 f3
  have HH : Hid _ := hold
  have HN : Hid _ := hnC
  clear hold hnC
  go_wp2_with fail
  have hfin : ∀ w2, w2 = (wb.setCell ⟨w1.heap.size + 1, 0, none⟩ (.slice (some ad) 9 c2)).setCell ⟨w1.heap.size + 1 + 1, 0, none⟩ (.int .i64 0) → w2.cell? ⟨w1.heap.size + 1, 0, none⟩ = some (.slice (some ad) 9 c2) ∧ w2.cell? ⟨w1.heap.size + 1 + 1, 0, none⟩ = some (.int .i64 0) ∧ Fresh1 w1 w2 NodeT G.1 (.slice (some ad) 9 c2) ∧ Kept w1 C w2 := by
    rintro w2 rfl
    refine ⟨(box1 (box_ne _ _ (box1_set f2 _) (by omega))).1, (box1 (box1_set (box_ne _ _ f3 (by omega)) _)).1, ⟨some ad, c2, cellsT G.1, by rw [hwk2.2.2.1], hwk2.2.1.move fun ad' e => ?_⟩, ⟨?_, ?_, ?_, ?_, fun x hx hc => ?_⟩⟩
    · injection e with e; subst e
      rw [RowKit.Below.heap_setCell _ _ _ _ (show ad.block ≠ w1.heap.size + 1 + 1 by omega), RowKit.Below.heap_setCell _ _ _ _ (show ad.block ≠ w1.heap.size + 1 by omega)]
    · exact kb.os.trans ((b3.trans ba).trans (but_alloc _ _ _)).os
    · exact kb.tape.trans ((b3.trans ba).trans (but_alloc _ _ _)).tape
    · exact kb.output.trans ((b3.trans ba).trans (but_alloc _ _ _)).output
    · rw [World.size_setCell, World.size_setCell]; exact hsz
    · rw [RowKit.Below.heap_setCell _ _ _ _ (show x ≠ w1.heap.size + 1 + 1 by omega), RowKit.Below.heap_setCell _ _ _ _ (show x ≠ w1.heap.size + 1 by omega), HH.out x (by omega) hc]
      exact b3.block x hx (fun _ h => by cases h)
  refine leaves_cons (f := 60) (args := #[.pointer (some ⟨w1.heap.size, 0, none⟩), .pointer (some ⟨w1.heap.size + 1, 0, none⟩), .pointer (some ⟨w1.heap.size + 1 + 1, 0, none⟩)]) (by simp) (by simp [go_sem]) ?_
  refine (catch_idle _ _ _ _).mono ?_
  rintro e u' w2 ⟨⟨v, rfl⟩, rfl, e2⟩
  obtain ⟨g1, g2, g3, g4⟩ := hfin w2 e2
  rw [HG.out]
  clear e2
  simp [Leaves, settle, results, Tryz.results30, go_sem, g1, g2]
  exact ⟨g3, g4⟩
end Go.Proofs.YtodkmhamaahjmaaGreatDoor
