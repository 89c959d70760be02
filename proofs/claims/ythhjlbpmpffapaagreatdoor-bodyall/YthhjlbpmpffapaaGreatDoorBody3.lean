/- body.file and with, on the machine. -/
import Derived.Test.YthhjlbpmpffapaaGreatDoorBody2
set_option maxRecDepth 100000
set_option maxHeartbeats 4000000
set_option linter.unusedSimpArgs false
set_option linter.unusedVariables false
set_option pp.deepTerms.threshold 20
namespace Go.Proofs.YthhjlbpmpffapaaGreatDoor
open Go.Tm Go.IntWalk Go.RowKit
def fndN (t : List Node) (p : ByteArray) (own : Bool) : Node := if (findT t p own).2 = 0 then nodeT t (findT t p own).1 else dfltN
theorem mem_five {w3 : World} {ad : Addr} {N : Nat} {cs : List Value} (h : Mem w3 ad N cs) {b0 : Nat} (hb : ad.block ≠ b0) (a b c d e : Value) (o : Obj) :
    Mem ((((((w3.setCell ⟨b0, 0, none⟩ a).setCell ⟨b0, 1, none⟩ b).setCell ⟨b0, 2, none⟩ c).setCell ⟨b0, 3, none⟩ d).setCell ⟨b0, 4, none⟩ e).alloc o) ad N cs := by
  refine h.move ?_
  have hlt := h.block_lt
  rw [(but_alloc _ _ none).block _ (by simp only [World.size_setCell]; exact hlt) (fun _ h => by cases h)]
  repeat rw [RowKit.Below.heap_setCell _ _ _ _ (show ad.block ≠ b0 from hb)]
theorem but_five {w w3 : World} (h : But w none w3) {b0 : Nat} (hb : w.heap.size ≤ b0) (a b c d e : Value) (o : Obj) :
    But w none ((((((w3.setCell ⟨b0, 0, none⟩ a).setCell ⟨b0, 1, none⟩ b).setCell ⟨b0, 2, none⟩ c).setCell ⟨b0, 3, none⟩ d).setCell ⟨b0, 4, none⟩ e).alloc o) :=
  butAll (butSet (butSet (butSet (butSet (butSet h _ _ hb) _ _ hb) _ _ hb) _ _ hb) _ _ hb) _
theorem file_err {t : List Node} {p : ByteArray} {own : Bool} {n0 : Node} (hn : fndN t p own = n0) :
    ((findT t p own).2 = 0 → (n0.1 == 2) = true → (fileT t p own).2 = 4) ∧ ((findT t p own).2 = 0 → (n0.1 == 2) = false → (fileT t p own).2 = 0) ∧ (¬ (findT t p own).2 = 0 → (fileT t p own).2 = (findT t p own).2) := by
  refine ⟨fun h k => ?_, fun h k => ?_, fun h => ?_⟩
  · rw [fndN, if_pos h] at hn
    rw [fileT, if_pos ⟨h, by rw [kindT, hn]; simpa using k⟩]
  · rw [fndN, if_pos h] at hn
    rw [fileT, if_neg (fun hc => by have := hc.2; rw [kindT, hn] at this; rw [this] at k; cases k), h]
  · rw [fileT, if_neg (fun hc => h hc.1)]
theorem file_calls (t : List Node) (p : ByteArray) (own : Bool) (hf : fitT t) (h9 : t.length = 9) (hp : p.size ≤ 1000000000) {w : World} {R : Nat → Prop} {v : Value} (hv : vrep w R TreeT t v) :
    Calls Tryz.prog 30 #[v, .string p, .bool own] w fun e w' => ∃ A c cs, e = .returned (.tuple #[fndV (fndN t p own) (findT t p own).1 (.slice A 9 c), .int .i64 (fileT t p own).2]) ∧ 9 ≤ c ∧ c ≤ maxLen ∧ cs.length = 27 ∧ (∀ v ∈ cs, v.oneCell' = true) ∧ (∀ w R, repList (rep w R NodeT) t cs) ∧
      (∃ ad, A = some ad ∧ Mem w' ad (c * 3) cs ∧ w.heap.size ≤ ad.block) ∧ But w none w' := by
  have mixed : Tryz.prog.follows .mixedOrders = true := by kernel_rfl
  obtain ⟨z, hz⟩ : ∃ z : Obj, z = .cells #[.int .i64 0, .int .i64 0, .string ⟨#[]⟩, .int .i64 0, .slice none 0 0] 63 := ⟨_, rfl⟩
  go_enter Tryz.func30, Tryz.ntmps30
  go_wp2_with fail
  rw [← hz]
  have b1 : But w none (w.alloc z) := but_alloc _ _ _
  have e1 : (w.alloc z).heap[w.heap.size]? = some z := (MapKept.heap_alloc w z).1
  refine (find_calls t p own hf h9 hp (vrep_but hv b1)).mono ?_
  rintro _ w3 ⟨A, c, cs, rfl, g1, g2, g3, g4, g5, ⟨ad, rfl, g6, g7⟩, b3⟩
  have bw3 := b1.trans b3
  have e3 : w3.heap[w.heap.size]? = some z := (b3.block _ (Array.getElem?_eq_some_iff.1 e1).1 (fun _ h => by cases h)).trans e1
  have hlt3 : w.heap.size < w3.heap.size := (Array.getElem?_eq_some_iff.1 e3).1
  have hzne : w.heap.size ≠ w3.heap.size := by omega
  have z0 : w3.cell? ⟨w.heap.size, 0, none⟩ = some (.int .i64 0) := by simp [World.cell?, e3, hz]
  have z1 : w3.cell? ⟨w.heap.size, 1, none⟩ = some (.int .i64 0) := by simp [World.cell?, e3, hz]
  have z2 : w3.cell? ⟨w.heap.size, 2, none⟩ = some (.string ⟨#[]⟩) := by simp [World.cell?, e3, hz]
  have z3 : w3.cell? ⟨w.heap.size, 3, none⟩ = some (.int .i64 0) := by simp [World.cell?, e3, hz]
  have z4 : w3.cell? ⟨w.heap.size, 4, none⟩ = some (.slice none 0 0) := by simp [World.cell?, e3, hz]
  have f0 : w3.frozen? ⟨w.heap.size, 0, none⟩ = false := by simp [World.frozen?, e3, hz]
  have f1 : w3.frozen? ⟨w.heap.size, 1, none⟩ = false := by simp [World.frozen?, e3, hz]
  have f2 : w3.frozen? ⟨w.heap.size, 2, none⟩ = false := by simp [World.frozen?, e3, hz]
  have f3 : w3.frozen? ⟨w.heap.size, 3, none⟩ = false := by simp [World.frozen?, e3, hz]
  have f4 : w3.frozen? ⟨w.heap.size, 4, none⟩ = false := by simp [World.frozen?, e3, hz]
  clear hz
  show (_ : Prop)
  rw [show (if (findT t p own).2 = 0 then nodeT t (findT t p own).1 else dfltN) = fndN t p own from rfl]
  obtain ⟨n0, hn0⟩ : ∃ n0, fndN t p own = n0 := ⟨_, rfl⟩
  obtain ⟨k0, m0, s0, ⟨⟩⟩ := n0
  rw [hn0]
  unfold fndV
  go_wp2_with fail
  obtain ⟨r4, r0, rn⟩ := file_err hn0
  have hadb : ad.block ≠ w.heap.size := by have h1 := b1.size; have : w.heap.size < (w.alloc z).heap.size := (Array.getElem?_eq_some_iff.1 e1).1; omega
  have hge : w.heap.size ≤ ad.block := Nat.le_trans b1.size g7
  · refine bodyPost_ret (v := .tuple #[fndV (k0, m0, s0, ()) (findT t p own).1 (.slice (some ad) 9 c), .int .i64 4]) ((results_cell_tmp rfl _ _ _).trans ?_) rfl ?_
    · go_simp
      rfl
    · refine ⟨some ad, c, cs, by rw [hn0, r4 (by assumption) (by assumption)], g1, g2, g3, g4, g5, ⟨ad, rfl, mem_five g6 hadb _ _ _ _ _ _, hge⟩, but_five bw3 (Nat.le_refl _) _ _ _ _ _ _⟩
  · obtain ⟨r4, r0, rn⟩ := file_err hn0
    have hadb : ad.block ≠ w.heap.size := by have h1 := b1.size; have : w.heap.size < (w.alloc z).heap.size := (Array.getElem?_eq_some_iff.1 e1).1; omega
    have hge : w.heap.size ≤ ad.block := Nat.le_trans b1.size g7
    refine bodyPost_ret (v := .tuple #[fndV (k0, m0, s0, ()) (findT t p own).1 (.slice (some ad) 9 c), .int .i64 0]) ((results_cell_tmp rfl _ _ _).trans ?_) rfl ?_
    · go_simp
      rfl
    · refine ⟨some ad, c, cs, by rw [hn0, r0 (by assumption) (by assumption)], g1, g2, g3, g4, g5, ⟨ad, rfl, mem_five g6 hadb _ _ _ _ _ _, hge⟩, but_five bw3 (Nat.le_refl _) _ _ _ _ _ _⟩
  · obtain ⟨r4, r0, rn⟩ := file_err hn0
    have hadb : ad.block ≠ w.heap.size := by have h1 := b1.size; have : w.heap.size < (w.alloc z).heap.size := (Array.getElem?_eq_some_iff.1 e1).1; omega
    have hge : w.heap.size ≤ ad.block := Nat.le_trans b1.size g7
    refine bodyPost_ret (v := .tuple #[fndV (k0, m0, s0, ()) (findT t p own).1 (.slice (some ad) 9 c), .int .i64 (findT t p own).2]) ((results_cell_tmp rfl _ _ _).trans ?_) rfl ?_
    · go_simp
      rfl
    · refine ⟨some ad, c, cs, by rw [hn0, rn (by assumption)], g1, g2, g3, g4, g5, ⟨ad, rfl, mem_five g6 hadb _ _ _ _ _ _, hge⟩, but_five bw3 (Nat.le_refl _) _ _ _ _ _ _⟩
theorem mem_set {w : World} {b off n : Nat} {cs : List Value} (h : Mem w ⟨b, off, none⟩ n cs) (o : Nat) (v : Value) (ho : o ≤ cs.length) (hn : o < n) (hv : v.oneCell' = true) : Mem (w.setCell ⟨b, off + o, none⟩ v) ⟨b, off, none⟩ n (ovr cs o [v]) := by
  obtain ⟨w', r, m, _⟩ := h.store (P := Tryz.prog) o v ho hn hv
  obtain ⟨c1, c2⟩ := h.cell o hn
  obtain ⟨old, hold⟩ := Option.isSome_iff_exists.1 c1
  rw [Addr.add_lit, run_store _ _ _ _ _ hv, hold] at r
  simp [c2] at r
  rw [r]; exact m
theorem but_set {w w1 : World} {b o : Nat} {off : Nat} (h : But w (some ⟨b, off, none⟩) w1) (v : Value) : But w (some ⟨b, off, none⟩) (w1.setCell ⟨b, o, none⟩ v) :=
  ⟨h.os, h.tape, h.output, by rw [World.size_setCell]; exact h.size, fun x hx hy => (RowKit.Below.heap_setCell _ _ _ _ (show x ≠ b from fun e => hy _ rfl e.symm)).trans (h.block x hx hy)⟩
/-- The tree with the node as it is now. -/
theorem with_calls (t : List Node) (n : Node) (i : Nat) (ad : Addr) (c : Nat) (cs : List Value) (h9 : t.length = 9) (hi : i < 9) (hc : 9 ≤ c) (hc2 : c ≤ maxLen) (hl : cs.length = 27) (hcs : ∀ w R, repList (rep w R NodeT) t cs) {w : World} (hm : Mem w ad (c * 3) cs) :
    Calls Tryz.prog 33 #[fndV n ((i : Int) + 1) (.slice (some ad) 9 c)] w fun e w' => e = .returned (.slice (some ad) 9 c) ∧ ∃ cs', (∀ w R, repList (rep w R NodeT) (t.set i n) cs') ∧ Mem w' ad (c * 3) cs' ∧ But w (some ad) w' := by
  obtain ⟨k0, m0, s0, ⟨⟩⟩ := n
  obtain ⟨b, o, sp⟩ := ad
  obtain rfl : sp = none := hm.out.1
  unfold fndV
  have hb := hm.block_lt
  have hbne : b ≠ w.heap.size := Nat.ne_of_lt hb
  have hb' : b < w.heap.size := hb
  have hw1 : IntKind.i64.wrap ((i : Int) + 1 - 1) = (i : Int) := by rw [IntKind.wrap_i64]; omega
  have hi9 : i < 9 := hi
  have hc63 : c ≤ 9223372036854775807 := hc2
  have hcell : ∀ j, j < 27 → (w.cell? ⟨b, o + j, none⟩).isSome = true ∧ w.frozen? ⟨b, o + j, none⟩ = false := fun j hj => hm.cell j (by omega)
  obtain ⟨x0, y0⟩ := hcell (i * 3) (by omega)
  obtain ⟨x1, y1⟩ := hcell (i * 3 + 1) (by omega)
  obtain ⟨x2, y2⟩ := hcell (i * 3 + 2) (by omega)
  rw [← Nat.add_assoc] at x1 y1 x2 y2
  obtain ⟨v0, x0⟩ := Option.isSome_iff_exists.1 x0
  obtain ⟨v1, x1⟩ := Option.isSome_iff_exists.1 x1
  obtain ⟨v2, x2⟩ := Option.isSome_iff_exists.1 x2
  clear hcell
  go_enter Tryz.func33, Tryz.ntmps33
  go_wp2_with fail
  go_ret
  have m1 := mem_set hm (i * 3) (.int .i64 k0) (by omega) (by omega) rfl
  have l1 : (ovr cs (i * 3) [.int .i64 k0]).length = 27 := by simp [ovr]; omega
  have m2 := mem_set m1 (i * 3 + 1) (.int .i64 m0) (by omega) (by omega) rfl
  have l2 : (ovr (ovr cs (i * 3) [.int .i64 k0]) (i * 3 + 1) [.int .i64 m0]).length = 27 := by simp [ovr]; omega
  have m3 := mem_set m2 (i * 3 + 2) (.string s0) (by omega) (by omega) rfl
  rw [ovr_cons (by omega), ovr_cons (by omega)] at m3
  rw [← Nat.add_assoc, ← Nat.add_assoc] at m3
  refine ⟨rfl, _, fun w R => ?_, m3.move ((but_alloc _ _ none).block b (by simp only [World.size_setCell]; exact hb') (fun _ h => by cases h)), ?_⟩
  · have := (hcs w R).set (fun x c hx => rep_len NodeT hx) i (by omega) (x := ((k0, m0, s0, ()) : Node)) (c := [.int .i64 k0, .int .i64 m0, .string s0]) ⟨[.int .i64 k0], [.int .i64 m0, .string s0], rfl, rfl, [.int .i64 m0], [.string s0], rfl, rfl, [.string s0], [], rfl, rfl, rfl⟩
    have e3 : (i + 1) * NodeT.sz = i * 3 + 3 := by show (i + 1) * 3 = _; omega
    rw [e3] at this
    exact this
  · exact (but_set (but_set (but_set (But.refl w _) _) _) _).trans (but_alloc _ _ _)
end Go.Proofs.YthhjlbpmpffapaaGreatDoor
