/- body.Write: the contract. -/
import Derived.Test.YthhjlbpmpffapaaGreatDoorBody4
set_option maxRecDepth 100000
set_option maxHeartbeats 4000000
set_option linter.unusedSimpArgs false
set_option linter.unusedVariables false
set_option pp.deepTerms.threshold 20
namespace Go.Proofs.YthhjlbpmpffapaaGreatDoor
open Go.Tm Go.IntWalk Go.RowKit
theorem write_calls (t : List Node) (p : ByteArray) (off : Int) (x : ByteArray) (own : Bool) (hf : fitT t) (h9 : t.length = 9) (hp : p.size ≤ 1000000000) (hx : x.size ≤ 4000000000) {w : World} {R : Nat → Prop} {v : Value} (hv : vrep w R TreeT t v) :
    Calls Tryz.prog 13 #[v, .string p, .int .i64 off, .string x, .bool own] w (ChgR w (writeT t p off x own).1 (writeT t p off x own).2) := by
  have mixed : Tryz.prog.follows .mixedOrders = true := by kernel_rfl
  by_cases h0 : (fileT t p own).2 = 0
  case neg =>
    rw [show writeT t p off x own = (t, (fileT t p own).2) from if_pos h0]
    go_enter Tryz.func13, Tryz.ntmps13
    go_wp2_with fail
    refine (file_calls t p own hf h9 hp hv).mono ?_
    rintro _ w3 ⟨A, c, cs, rfl, g1, g2, g3, g4, g5, ⟨ad, rfl, g6, g7⟩, b3⟩
    obtain ⟨n0, hn0⟩ : ∃ n0, fndN t p own = n0 := ⟨_, rfl⟩
    obtain ⟨k0, m0, s0, ⟨⟩⟩ := n0
    rw [hn0]
    unfold fndV
    go_wp2_with fail
    go_ret2
    exact ⟨ad, c, cs, rfl, g1, g2, g5, memAll g6 _, g7, butAll b3 _⟩
  by_cases h1 : off < 0
  case pos =>
    rw [show writeT t p off x own = (t, 1) by rw [writeT, if_neg (by simpa using h0), if_pos h1]]
    go_enter Tryz.func13, Tryz.ntmps13
    go_wp2_with fail
    refine (file_calls t p own hf h9 hp hv).mono ?_
    rintro _ w3 ⟨A, c, cs, rfl, g1, g2, g3, g4, g5, ⟨ad, rfl, g6, g7⟩, b3⟩
    obtain ⟨n0, hn0⟩ : ∃ n0, fndN t p own = n0 := ⟨_, rfl⟩
    obtain ⟨k0, m0, s0, ⟨⟩⟩ := n0
    rw [hn0]
    unfold fndV
    go_wp2_with fail
    go_ret2
    exact ⟨ad, c, cs, rfl, g1, g2, g5, memAll g6 _, g7, butAll b3 _⟩
  by_cases h2 : 120 < off
  case pos =>
    rw [show writeT t p off x own = (t, 8) by rw [writeT, if_neg (by simpa using h0), if_neg h1, if_pos (.inl h2)]]
    go_enter Tryz.func13, Tryz.ntmps13
    go_wp2_with fail
    refine (file_calls t p own hf h9 hp hv).mono ?_
    rintro _ w3 ⟨A, c, cs, rfl, g1, g2, g3, g4, g5, ⟨ad, rfl, g6, g7⟩, b3⟩
    obtain ⟨n0, hn0⟩ : ∃ n0, fndN t p own = n0 := ⟨_, rfl⟩
    obtain ⟨k0, m0, s0, ⟨⟩⟩ := n0
    rw [hn0]
    unfold fndV
    go_wp2_with fail
    go_ret2
    exact ⟨ad, c, cs, rfl, g1, g2, g5, memAll g6 _, g7, butAll b3 _⟩
  have hw1 : IntKind.i64.wrap (120 - off) = 120 - off := i64_in _ (by omega)
  by_cases h3 : 120 - off < (x.size : Int)
  case pos =>
    rw [show writeT t p off x own = (t, 8) by rw [writeT, if_neg (by simpa using h0), if_neg h1, if_pos (.inr h3)]]
    go_enter Tryz.func13, Tryz.ntmps13
    go_wp2_with fail
    refine (file_calls t p own hf h9 hp hv).mono ?_
    rintro _ w3 ⟨A, c, cs, rfl, g1, g2, g3, g4, g5, ⟨ad, rfl, g6, g7⟩, b3⟩
    obtain ⟨n0, hn0⟩ : ∃ n0, fndN t p own = n0 := ⟨_, rfl⟩
    obtain ⟨k0, m0, s0, ⟨⟩⟩ := n0
    rw [hn0]
    unfold fndV
    go_wp2_with fail
    go_ret2
    exact ⟨ad, c, cs, rfl, g1, g2, g5, memAll g6 _, g7, butAll b3 _⟩
  by_cases h4 : x.size = 0
  case pos =>
    rw [show writeT t p off x own = (t, 0) by rw [writeT, if_neg (by simpa using h0), if_neg h1, if_neg (fun h => h.elim h2 h3), if_pos h4]]
    obtain rfl : x = ⟨#[]⟩ := by
      obtain ⟨⟨l⟩⟩ := x
      have : l.length = 0 := h4
      rw [List.eq_nil_of_length_eq_zero this]
    go_enter Tryz.func13, Tryz.ntmps13
    go_wp2_with fail
    refine (file_calls t p own hf h9 hp hv).mono ?_
    rintro _ w3 ⟨A, c, cs, rfl, g1, g2, g3, g4, g5, ⟨ad, rfl, g6, g7⟩, b3⟩
    obtain ⟨n0, hn0⟩ : ∃ n0, fndN t p own = n0 := ⟨_, rfl⟩
    obtain ⟨k0, m0, s0, ⟨⟩⟩ := n0
    rw [hn0]
    unfold fndV
    go_wp2_with fail
    go_ret2
    exact ⟨ad, c, cs, rfl, g1, g2, g5, memAll g6 _, g7, butAll b3 _⟩
  · obtain ⟨h00, h01⟩ := file_nat h0
    obtain ⟨i, hino, hi, hfn⟩ := ino_nat h9 h00
    obtain ⟨q, rfl⟩ : ∃ q : Nat, off = (q : Int) := ⟨off.toNat, by omega⟩
    have hbs := fit_body hf (findT t p own).1
    have hbs : (nodeT t (findT t p own).1).2.2.1.size ≤ 4000000000 := hbs
    rw [← hfn] at hbs
    rw [show writeT t p q x own = (t.set i ((nodeT t (findT t p own).1).1, (nodeT t (findT t p own).1).2.1, (grownB (nodeT t (findT t p own).1).2.2.1 (q + x.size)).extract 0 q ++ x ++ (grownB (nodeT t (findT t p own).1).2.2.1 (q + x.size)).extract (q + x.size) (grownB (nodeT t (findT t p own).1).2.2.1 (q + x.size)).size, ()), 0) by
      rw [writeT, if_neg (by simpa using h0), if_neg h1, if_neg (fun h => h.elim h2 h3), if_neg h4, setT, h01, hino, show ((i : Int) + 1 - 1).toNat = i by omega, write_long]
      rfl]
    rw [← hfn]
    have hxe : x.toList.isEmpty = false := by
      rw [toList_bl]
      cases hb : bl x with
      | nil => rw [bl_size, hb] at h4; exact absurd rfl h4
      | cons a l => rfl
    have hw2 : IntKind.i64.wrap ((q : Int) + (x.size : Int)) = ((q + x.size : Nat) : Int) := w_nat (by omega) (by omega)
    go_enter Tryz.func13, Tryz.ntmps13
    go_wp2_with fail
    refine (file_calls t p own hf h9 hp hv).mono ?_
    rintro _ w3 ⟨A, c, cs, rfl, g1, g2, g3, g4, g5, ⟨ad, rfl, g6, g7⟩, b3⟩
    obtain ⟨n0, hn0⟩ : ∃ n0, fndN t p own = n0 := ⟨_, rfl⟩
    obtain ⟨k0, m0, s0, ⟨⟩⟩ := n0
    rw [hn0]
    unfold fndV
    go_wp2_with fail
    have hbs : s0.size ≤ 4000000000 := by rw [hn0] at hbs; exact hbs
    obtain ⟨z, hz⟩ : ∃ z : Obj, z = .cells #[.int .i64 k0, .int .i64 m0, .string s0, .int .i64 ((i : Int) + 1), .slice (some ad) 9 c] 63 := ⟨_, rfl⟩
    rw [← hz]
    have e4 : (w3.alloc z).heap[w3.heap.size]? = some z := (MapKept.heap_alloc w3 z).1
    refine (grown_calls s0 (q + x.size) hbs (by omega)).mono ?_
    rintro _ w5 ⟨rfl, b5⟩
    have e5 : w5.heap[w3.heap.size]? = some z := (b5.block _ (Array.getElem?_eq_some_iff.1 e4).1 (fun _ h => by cases h)).trans e4
    have z0 : ∀ w6 : World, w6.heap = w5.heap → w6.cell? ⟨w3.heap.size, 0, none⟩ = some (.int .i64 k0) := fun w6 h => by simp [World.cell?, h, e5, hz]
    have z0d := z0 w5.drew rfl
    have z1d : w5.drew.cell? ⟨w3.heap.size, 1, none⟩ = some (.int .i64 m0) := by show w5.cell? _ = _; simp [World.cell?, e5, hz]
    have z2d : w5.drew.cell? ⟨w3.heap.size, 2, none⟩ = some (.string s0) := by show w5.cell? _ = _; simp [World.cell?, e5, hz]
    have z3d : w5.drew.cell? ⟨w3.heap.size, 3, none⟩ = some (.int .i64 ((i : Int) + 1)) := by show w5.cell? _ = _; simp [World.cell?, e5, hz]
    have z4d : w5.drew.cell? ⟨w3.heap.size, 4, none⟩ = some (.slice (some ad) 9 c) := by show w5.cell? _ = _; simp [World.cell?, e5, hz]
    have f2d : w5.drew.frozen? ⟨w3.heap.size, 2, none⟩ = false := by show w5.frozen? _ = _; simp [World.frozen?, e5, hz]
    have z0 : w5.cell? ⟨w3.heap.size, 0, none⟩ = some (.int .i64 k0) := z0 w5 rfl
    have z1 : w5.cell? ⟨w3.heap.size, 1, none⟩ = some (.int .i64 m0) := z1d
    have z2 : w5.cell? ⟨w3.heap.size, 2, none⟩ = some (.string s0) := z2d
    have z3 : w5.cell? ⟨w3.heap.size, 3, none⟩ = some (.int .i64 ((i : Int) + 1)) := z3d
    have z4 : w5.cell? ⟨w3.heap.size, 4, none⟩ = some (.slice (some ad) 9 c) := z4d
    have f2 : w5.frozen? ⟨w3.heap.size, 2, none⟩ = false := f2d
    have hgs : q + x.size ≤ (grownB s0 (q + x.size)).size := by rw [grown_size]; omega
    have hgs0 : q ≤ (grownB s0 (q + x.size)).size := by omega
    have b35 := (but_alloc w3 z none).trans b5
    have hm5 : Mem w5.drew ad (c * 3) cs := g6.move (b35.block _ g6.block_lt (fun _ h => by cases h))
    have hadn : ad.block ≠ w3.heap.size := Nat.ne_of_lt g6.block_lt
    have htn : ((q : Int) + (x.size : Int)).toNat = q + x.size := by omega
    have hgz := grown_size s0 (q + x.size)
    have hbig1 : ¬ (9223372036854775807 < q + x.size) := by omega
    have hbig2 : ¬ (9223372036854775807 < q + x.size + ((grownB s0 (q + x.size)).size - (q + x.size))) := by omega
    have hgi1 : (0 : Int) ≤ (q : Int) + (x.size : Int) := by omega
    have hgi2 : (q : Int) + (x.size : Int) ≤ ((grownB s0 (q + x.size)).size : Int) := by omega
    have hbig3 : ¬ (9223372036854775807 < (grownB s0 (q + x.size)).size) := by omega
    clear hz hgz
    go_wp2_with fail
    go_region_law_o fail
    go_wp2_with fail
    refine (with_calls t (k0, m0, (grownB s0 (q + x.size)).extract 0 q ++ x ++ (grownB s0 (q + x.size)).extract (q + x.size) (grownB s0 (q + x.size)).size, ()) i ad c cs h9 hi g1 g2 g3 g5 (hm5.move (RowKit.Below.heap_setCell w5.drew ⟨w3.heap.size, 2, none⟩ _ _ hadn))).mono ?_
    rintro _ w6 ⟨rfl, cs', hcs', hm', hb'⟩
    go_wp2_with fail
    go_ret2
    rw [hn0]
    exact ⟨ad, c, cs', rfl, g1, g2, hcs', hm', g7, butOver (butSet ((b3.trans b35).trans (but_drew _ _)) _ _ (by show w.heap.size ≤ w3.heap.size; exact b3.size)) hb' g7⟩
end Go.Proofs.YthhjlbpmpffapaaGreatDoor
