/- body.Write, Cut and Mode: the contracts. -/
import Derived.Test.YthhjlbpmpffapaaGreatDoorBody3
import Derived.Test.YthhjlbpmpffapaaGreatDoorRef6e
set_option maxRecDepth 100000
set_option maxHeartbeats 4000000
set_option linter.unusedSimpArgs false
set_option linter.unusedVariables false
set_option pp.deepTerms.threshold 20
namespace Go.Proofs.YthhjlbpmpffapaaGreatDoor
open Go.Tm Go.IntWalk Go.RowKit
/-- What a change of a tree answers. -/
def ChgR (w : World) (u : List Node) (er : Int) (e : Ending) (w' : World) : Prop :=
  ∃ ad c cs, e = .returned (.tuple #[.slice (some ad) 9 c, .int .i64 er]) ∧ 9 ≤ c ∧ c ≤ maxLen ∧ (∀ w R, repList (rep w R NodeT) u cs) ∧ Mem w' ad (c * 3) cs ∧ w.heap.size ≤ ad.block ∧ But w none w'
theorem chg_after {f : FuncId} {fn : Func} (hf : Tryz.prog.funcs[f]? = some fn) (hname : (fn.name == "runtime.NumGoroutine") = false) (hb : fn.body.isSome = true) {args : List Arg} {vals : List Value} {w : World} {R : Nat → Prop} {u : List Node} {er : Int} (hu : u.length = 9) (ha : ∀ a ∈ args, ∃ d, a = .val d) (hl : args.length = vals.length)
    (h : Calls Tryz.prog f vals.toArray w (ChgR w u er)) : Goes Tryz.prog f vals w (.tup [⟨TreeT, u⟩, ⟨.int .i64, er⟩]) (After w R args vals ⟨.tup [⟨TreeT, u⟩, ⟨.int .i64, er⟩], []⟩) := by
  refine .inl ⟨f, vals.toArray, w, enters hf hname hb _ _, h.mono ?_⟩
  rintro _ w' ⟨ad, c, cs, rfl, k1, k2, k3, k4, k5, k6⟩
  refine ⟨_, rfl, ⟨k6.os, k6.tape, k6.output, k6.size, fun x hx _ => k6.block x hx (fun _ h => by cases h)⟩, (fun x hx => by cases hx), ⟨[_, _], rfl, _, _, rfl, ⟨_, ⟨some ad, c, by rw [hu], by rw [hu]; exact k1, k2, .inr ⟨ad, cs, rfl, ⟨.inr k5, fun h => by cases h⟩, k4.block_lt, k3 _ _, k4.lies⟩⟩, rfl⟩, _, _, rfl, ⟨_, rfl, rfl⟩, rfl⟩, iosN hl ha⟩
theorem butOver {w w1 w2 : World} {ad : Addr} (h : But w none w1) (k : But w1 (some ad) w2) (hb : w.heap.size ≤ ad.block) : But w none w2 :=
  ⟨k.os.trans h.os, k.tape.trans h.tape, k.output.trans h.output, Nat.le_trans h.size k.size, fun x hx _ =>
    (k.block x (Nat.lt_of_lt_of_le hx h.size) (fun a e => by injection e with e; subst e; omega)).trans (h.block x hx (fun _ e => by cases e))⟩
theorem memAll {w : World} {ad : Addr} {n : Nat} {cs : List Value} (h : Mem w ad n cs) (o : Obj) : Mem (w.alloc o) ad n cs :=
  h.move ((but_alloc _ _ none).block _ h.block_lt (fun _ h => by cases h))
theorem ino_nat {t : List Node} {p : ByteArray} {own : Bool} (h9 : t.length = 9) (h0 : (findT t p own).2 = 0) : ∃ i : Nat, (findT t p own).1 = (i : Int) + 1 ∧ i < 9 ∧ fndN t p own = nodeT t (findT t p own).1 := by
  have := findT_range h0
  exact ⟨((findT t p own).1 - 1).toNat, by omega, by omega, if_pos h0⟩
theorem mode_calls (t : List Node) (p : ByteArray) (m : Int) (own : Bool) (hf : fitT t) (h9 : t.length = 9) (hp : p.size ≤ 1000000000) {w : World} {R : Nat → Prop} {v : Value} (hv : vrep w R TreeT t v) :
    Calls Tryz.prog 18 #[v, .string p, .int .i64 m, .bool own] w (ChgR w (modeT t p m own).1 (modeT t p m own).2) := by
  have mixed : Tryz.prog.follows .mixedOrders = true := by kernel_rfl
  by_cases h0 : (findT t p own).2 = 0
  case neg =>
    rw [show modeT t p m own = (t, (findT t p own).2) from if_pos h0]
    go_enter Tryz.func18, Tryz.ntmps18
    go_wp2_with fail
    refine (find_calls t p own hf h9 hp hv).mono ?_
    rintro _ w3 ⟨A, c, cs, rfl, g1, g2, g3, g4, g5, ⟨ad, rfl, g6, g7⟩, b3⟩
    try rw [show (if (findT t p own).2 = 0 then nodeT t (findT t p own).1 else dfltN) = fndN t p own from rfl]
    obtain ⟨n0, hn0⟩ : ∃ n0, fndN t p own = n0 := ⟨_, rfl⟩
    obtain ⟨k0, m0, s0, ⟨⟩⟩ := n0
    rw [hn0]
    unfold fndV
    go_wp2_with fail
    go_ret2
    exact ⟨ad, c, cs, rfl, g1, g2, g5, memAll g6 _, g7, butAll b3 _⟩
  by_cases h1 : m < 0
  case pos =>
    rw [show modeT t p m own = (t, 1) by rw [modeT, if_neg (by simpa using h0), if_pos (.inl h1)]]
    go_enter Tryz.func18, Tryz.ntmps18
    go_wp2_with fail
    refine (find_calls t p own hf h9 hp hv).mono ?_
    rintro _ w3 ⟨A, c, cs, rfl, g1, g2, g3, g4, g5, ⟨ad, rfl, g6, g7⟩, b3⟩
    try rw [show (if (findT t p own).2 = 0 then nodeT t (findT t p own).1 else dfltN) = fndN t p own from rfl]
    obtain ⟨n0, hn0⟩ : ∃ n0, fndN t p own = n0 := ⟨_, rfl⟩
    obtain ⟨k0, m0, s0, ⟨⟩⟩ := n0
    rw [hn0]
    unfold fndV
    go_wp2_with fail
    go_ret2
    exact ⟨ad, c, cs, rfl, g1, g2, g5, memAll g6 _, g7, butAll b3 _⟩
  by_cases h2 : 255 < m
  case pos =>
    rw [show modeT t p m own = (t, 1) by rw [modeT, if_neg (by simpa using h0), if_pos (.inr h2)]]
    go_enter Tryz.func18, Tryz.ntmps18
    go_wp2_with fail
    refine (find_calls t p own hf h9 hp hv).mono ?_
    rintro _ w3 ⟨A, c, cs, rfl, g1, g2, g3, g4, g5, ⟨ad, rfl, g6, g7⟩, b3⟩
    try rw [show (if (findT t p own).2 = 0 then nodeT t (findT t p own).1 else dfltN) = fndN t p own from rfl]
    obtain ⟨n0, hn0⟩ : ∃ n0, fndN t p own = n0 := ⟨_, rfl⟩
    obtain ⟨k0, m0, s0, ⟨⟩⟩ := n0
    rw [hn0]
    unfold fndV
    go_wp2_with fail
    go_ret2
    exact ⟨ad, c, cs, rfl, g1, g2, g5, memAll g6 _, g7, butAll b3 _⟩
  · obtain ⟨i, hino, hi, hfn⟩ := ino_nat h9 h0
    rw [show modeT t p m own = (t.set i ((nodeT t (findT t p own).1).1, m, (nodeT t (findT t p own).1).2.2.1, ()), 0) by
      rw [modeT, if_neg (by simpa using h0), if_neg (fun h => h.elim h1 h2), setT, hino, show ((i : Int) + 1 - 1).toNat = i by omega]]
    rw [← hfn]
    go_enter Tryz.func18, Tryz.ntmps18
    go_wp2_with fail
    refine (find_calls t p own hf h9 hp hv).mono ?_
    rintro _ w3 ⟨A, c, cs, rfl, g1, g2, g3, g4, g5, ⟨ad, rfl, g6, g7⟩, b3⟩
    try rw [show (if (findT t p own).2 = 0 then nodeT t (findT t p own).1 else dfltN) = fndN t p own from rfl]
    obtain ⟨n0, hn0⟩ : ∃ n0, fndN t p own = n0 := ⟨_, rfl⟩
    obtain ⟨k0, m0, s0, ⟨⟩⟩ := n0
    rw [hn0]
    unfold fndV
    go_wp2_with fail
    refine (with_calls t (k0, m, s0, ()) i ad c cs h9 hi g1 g2 g3 g5 (memAll g6 _)).mono ?_
    rintro _ w5 ⟨rfl, cs', hcs', hm', hb'⟩
    go_wp2_with fail
    go_ret2
    rw [hn0]
    exact ⟨ad, c, cs', rfl, g1, g2, hcs', hm', g7, butOver (butAll b3 _) hb' g7⟩
theorem file_nat {t : List Node} {p : ByteArray} {own : Bool} (h0 : (fileT t p own).2 = 0) : (findT t p own).2 = 0 ∧ (fileT t p own).1 = (findT t p own).1 := by
  unfold fileT at h0 ⊢
  split at h0
  · cases h0
  · rename_i h
    rw [if_neg h]; exact ⟨h0, rfl⟩
theorem grown_calls (s : ByteArray) (n : Nat) (hs : s.size ≤ 4000000000) (hn : n ≤ 1000000) {w : World} :
    Calls Tryz.prog 32 #[.string s, .int .i64 (n : Int)] w fun e w' => e = .returned (.string (grownB s n)) ∧ But w none w' := by
  have hc : bgrownC [.val ⟨.str, s⟩, .val ⟨.int .i64, (n : Int)⟩] = some ⟨.val ⟨.str, grownB s n⟩, []⟩ := by
    rw [bgrownC_eq, if_pos ⟨hs, by omega, by omega⟩]; rfl
  have hrd : Ready w (fun _ => False) [.val ⟨.str, s⟩, .val ⟨.int .i64, (n : Int)⟩] [.string s, .int .i64 (n : Int)] :=
    ⟨⟨_, _, rfl, mk_str _ _ _, _, _, rfl, mk_int _ _ _ _, rfl⟩, List.nodup_nil, fun b hb => by cases hb⟩
  refine (goes_calls Tryz.func32 (by kernel_rfl) (by kernel_rfl) (bgrown_ok _ _ _ _ _ hc hrd)).mono ?_
  rintro e w' ⟨v', rfl, h⟩
  have hv : vrep w' _ .str (grownB s n) v' := h.res
  have hv := vrep_str hv
  subst hv
  exact ⟨rfl, kept_but h.kept (fun b hb => by cases hb)⟩
theorem cut_calls (t : List Node) (p : ByteArray) (n : Int) (own : Bool) (hf : fitT t) (h9 : t.length = 9) (hp : p.size ≤ 1000000000) {w : World} {R : Nat → Prop} {v : Value} (hv : vrep w R TreeT t v) :
    Calls Tryz.prog 16 #[v, .string p, .int .i64 n, .bool own] w (ChgR w (sizeT t p n own).1 (sizeT t p n own).2) := by
  have mixed : Tryz.prog.follows .mixedOrders = true := by kernel_rfl
  by_cases h0 : (fileT t p own).2 = 0
  case neg =>
    rw [show sizeT t p n own = (t, (fileT t p own).2) from if_pos h0]
    go_enter Tryz.func16, Tryz.ntmps16
    go_wp2_with fail
    refine (file_calls t p own hf h9 hp hv).mono ?_
    rintro _ w3 ⟨A, c, cs, rfl, g1, g2, g3, g4, g5, ⟨ad, rfl, g6, g7⟩, b3⟩
    try rw [show (if (findT t p own).2 = 0 then nodeT t (findT t p own).1 else dfltN) = fndN t p own from rfl]
    obtain ⟨n0, hn0⟩ : ∃ n0, fndN t p own = n0 := ⟨_, rfl⟩
    obtain ⟨k0, m0, s0, ⟨⟩⟩ := n0
    rw [hn0]
    unfold fndV
    go_wp2_with fail
    go_ret2
    exact ⟨ad, c, cs, rfl, g1, g2, g5, memAll g6 _, g7, butAll b3 _⟩
  by_cases h1 : n < 0
  case pos =>
    rw [show sizeT t p n own = (t, 1) by rw [sizeT, if_neg (by simpa using h0), if_pos h1]]
    go_enter Tryz.func16, Tryz.ntmps16
    go_wp2_with fail
    refine (file_calls t p own hf h9 hp hv).mono ?_
    rintro _ w3 ⟨A, c, cs, rfl, g1, g2, g3, g4, g5, ⟨ad, rfl, g6, g7⟩, b3⟩
    try rw [show (if (findT t p own).2 = 0 then nodeT t (findT t p own).1 else dfltN) = fndN t p own from rfl]
    obtain ⟨n0, hn0⟩ : ∃ n0, fndN t p own = n0 := ⟨_, rfl⟩
    obtain ⟨k0, m0, s0, ⟨⟩⟩ := n0
    rw [hn0]
    unfold fndV
    go_wp2_with fail
    go_ret2
    exact ⟨ad, c, cs, rfl, g1, g2, g5, memAll g6 _, g7, butAll b3 _⟩
  by_cases h2 : 120 < n
  case pos =>
    rw [show sizeT t p n own = (t, 8) by rw [sizeT, if_neg (by simpa using h0), if_neg h1, if_pos h2]]
    go_enter Tryz.func16, Tryz.ntmps16
    go_wp2_with fail
    refine (file_calls t p own hf h9 hp hv).mono ?_
    rintro _ w3 ⟨A, c, cs, rfl, g1, g2, g3, g4, g5, ⟨ad, rfl, g6, g7⟩, b3⟩
    try rw [show (if (findT t p own).2 = 0 then nodeT t (findT t p own).1 else dfltN) = fndN t p own from rfl]
    obtain ⟨n0, hn0⟩ : ∃ n0, fndN t p own = n0 := ⟨_, rfl⟩
    obtain ⟨k0, m0, s0, ⟨⟩⟩ := n0
    rw [hn0]
    unfold fndV
    go_wp2_with fail
    go_ret2
    exact ⟨ad, c, cs, rfl, g1, g2, g5, memAll g6 _, g7, butAll b3 _⟩
  · obtain ⟨h00, h01⟩ := file_nat h0
    obtain ⟨i, hino, hi, hfn⟩ := ino_nat h9 h00
    obtain ⟨q, rfl⟩ : ∃ q : Nat, n = (q : Int) := ⟨n.toNat, by omega⟩
    have hbs := fit_body hf (findT t p own).1
    have hbs : (nodeT t (findT t p own).1).2.2.1.size ≤ 4000000000 := hbs
    rw [← hfn] at hbs
    rw [show sizeT t p q own = (t.set i ((nodeT t (findT t p own).1).1, (nodeT t (findT t p own).1).2.1, (grownB (nodeT t (findT t p own).1).2.2.1 q).extract 0 q, ()), 0) by
      rw [sizeT, if_neg (by simpa using h0), if_neg h1, if_neg h2, setT, h01, hino, show ((i : Int) + 1 - 1).toNat = i by omega, cut_long]
      rfl]
    rw [← hfn]
    go_enter Tryz.func16, Tryz.ntmps16
    go_wp2_with fail
    refine (file_calls t p own hf h9 hp hv).mono ?_
    rintro _ w3 ⟨A, c, cs, rfl, g1, g2, g3, g4, g5, ⟨ad, rfl, g6, g7⟩, b3⟩
    try rw [show (if (findT t p own).2 = 0 then nodeT t (findT t p own).1 else dfltN) = fndN t p own from rfl]
    obtain ⟨n0, hn0⟩ : ∃ n0, fndN t p own = n0 := ⟨_, rfl⟩
    obtain ⟨k0, m0, s0, ⟨⟩⟩ := n0
    rw [hn0]
    unfold fndV
    go_wp2_with fail
    have hbs : s0.size ≤ 4000000000 := by rw [hn0] at hbs; exact hbs
    obtain ⟨z, hz⟩ : ∃ z : Obj, z = .cells #[.int .i64 k0, .int .i64 m0, .string s0, .int .i64 ((i : Int) + 1), .slice (some ad) 9 c] 63 := ⟨_, rfl⟩
    rw [← hz]
    have e4 : (w3.alloc z).heap[w3.heap.size]? = some z := (MapKept.heap_alloc w3 z).1
    refine (grown_calls s0 q hbs (by omega)).mono ?_
    rintro _ w5 ⟨rfl, b5⟩
    have e5 : w5.heap[w3.heap.size]? = some z := (b5.block _ (Array.getElem?_eq_some_iff.1 e4).1 (fun _ h => by cases h)).trans e4
    have z0 : w5.cell? ⟨w3.heap.size, 0, none⟩ = some (.int .i64 k0) := by simp [World.cell?, e5, hz]
    have z1 : w5.cell? ⟨w3.heap.size, 1, none⟩ = some (.int .i64 m0) := by simp [World.cell?, e5, hz]
    have z2 : w5.cell? ⟨w3.heap.size, 2, none⟩ = some (.string s0) := by simp [World.cell?, e5, hz]
    have z3 : w5.cell? ⟨w3.heap.size, 3, none⟩ = some (.int .i64 ((i : Int) + 1)) := by simp [World.cell?, e5, hz]
    have z4 : w5.cell? ⟨w3.heap.size, 4, none⟩ = some (.slice (some ad) 9 c) := by simp [World.cell?, e5, hz]
    have f2 : w5.frozen? ⟨w3.heap.size, 2, none⟩ = false := by simp [World.frozen?, e5, hz]
    have hgs : q ≤ (grownB s0 q).size := by rw [grown_size]; omega
    have b35 := (but_alloc w3 z none).trans b5
    have hm5 : Mem w5 ad (c * 3) cs := g6.move (b35.block _ g6.block_lt (fun _ h => by cases h))
    have hadn : ad.block ≠ w3.heap.size := Nat.ne_of_lt g6.block_lt
    clear hz
    go_wp2_with fail
    refine (with_calls t (k0, m0, (grownB s0 q).extract 0 q, ()) i ad c cs h9 hi g1 g2 g3 g5 (hm5.move (RowKit.Below.heap_setCell _ _ _ _ hadn))).mono ?_
    rintro _ w6 ⟨rfl, cs', hcs', hm', hb'⟩
    go_wp2_with fail
    go_ret2
    rw [hn0]
    exact ⟨ad, c, cs', rfl, g1, g2, hcs', hm', g7, butOver (butSet (b3.trans b35) _ _ (by show w.heap.size ≤ w3.heap.size; exact b3.size)) hb' g7⟩
end Go.Proofs.YthhjlbpmpffapaaGreatDoor
