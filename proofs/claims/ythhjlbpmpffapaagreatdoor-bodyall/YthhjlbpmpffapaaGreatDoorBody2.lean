/- body.find, body.file and with, on the machine. -/
import Derived.Test.YthhjlbpmpffapaaGreatDoorBody1
import Derived.Laws.ResultCell
set_option maxRecDepth 100000
set_option maxHeartbeats 4000000
set_option linter.unusedSimpArgs false
set_option linter.unusedVariables false
set_option pp.deepTerms.threshold 20
namespace Go.Proofs.YthhjlbpmpffapaaGreatDoor
open Go.Tm Go.IntWalk Go.RowKit
/-- A node that is found, in a tree of its own. -/
def fndV (n : Node) (ino : Int) (s : Value) : Value := .agg #[.int .i64 n.1, .int .i64 n.2.1, .string n.2.2.1, .int .i64 ino, s]
theorem spot_none {w : World} {ad : Addr} {v : Value} (h : w.cell? ad = some v) : ad.spot = none := by
  obtain ⟨b, o, sp⟩ := ad
  cases sp with
  | none => rfl
  | some k =>
    exfalso
    unfold World.cell? at h
    split at h <;> first | (rename_i h1; cases h1; done) | (simp at h; done) | cases h
/-- A tree that is given, as cells. -/
theorem tree_cells {t : List Node} {w : World} {R : Nat → Prop} {v : Value} (hv : vrep w R TreeT t v) (hn : 0 < t.length) :
    ∃ b o c, v = .slice (some ⟨b, o, none⟩) t.length c ∧ t.length ≤ c ∧ c ≤ maxLen ∧ b < w.heap.size ∧ ∀ i, (h : i < t.length) → ∀ w' : World, w'.heap[b]? = w.heap[b]? →
      w'.cell? ⟨b, o + i * 3, none⟩ = some (.int .i64 (t[i]).1) ∧ w'.cell? ⟨b, o + i * 3 + 1, none⟩ = some (.int .i64 (t[i]).2.1) ∧ w'.cell? ⟨b, o + i * 3 + 2, none⟩ = some (.string (t[i]).2.2.1) := by
  obtain ⟨cs, ⟨A, c, rfl, h1, h2, h3⟩, rfl⟩ := hv
  rcases h3 with h3 | ⟨ad, inner, rfl, _, hlt, hr, hl⟩
  · rw [h3] at hn; simp at hn
  have hlen := hr.length (fun x c hx => rep_len NodeT hx)
  have hsp : ad.spot = none := by
    obtain ⟨v0, hv0⟩ : ∃ v0, inner[0]? = some v0 := by
      rw [List.getElem?_eq_getElem (by rw [hlen]; show 0 < t.length * 3; omega)]
      exact ⟨_, rfl⟩
    have := spot_none (hl 0 v0 hv0)
    rwa [show ad.add 0 = ad from add_zero ad] at this
  obtain ⟨b, o, sp⟩ := ad
  have hsp : sp = none := hsp
  subst hsp
  refine ⟨b, o, c, rfl, h1, h2, hlt, fun i hi w' hw => ?_⟩
  have hget := hr.get (fun x c hx => rep_len NodeT hx) i t[i] (List.getElem?_eq_getElem hi)
  obtain ⟨c1, c2, e1, r1, c3, c4, rfl, r3, c5, c6, rfl, r5, r6⟩ := hget
  have r1 : c1 = [.int .i64 (t[i]).1] := r1
  have r3 : c3 = [.int .i64 (t[i]).2.1] := r3
  have r5 : c5 = [.string (t[i]).2.2.1] := r5
  have r6 : c6 = [] := r6
  subst r1 r3 r5 r6
  have key : ∀ j u, ([.int .i64 (t[i]).1, .int .i64 (t[i]).2.1, .string (t[i]).2.2.1] : List Value)[j]? = some u → w'.cell? ⟨b, o + (i * 3 + j), none⟩ = some u := fun j u hj => by
    have hj3 : j < 3 := by
      rcases Nat.lt_or_ge j 3 with h | h
      · exact h
      · rw [List.getElem?_eq_none (by simpa using h)] at hj; cases hj
    have e2 : ((inner.drop (i * 3)).take 3)[j]? = some u := by
      have e1 : (inner.drop (i * 3)).take 3 = _ := e1
      rw [e1]; exact hj
    rw [List.getElem?_take, if_pos hj3, List.getElem?_drop] at e2
    have := lies_move hw hl _ u e2
    simpa [Addr.add_lit] using this
  exact ⟨by simpa using key 0 _ rfl, by have := key 1 _ rfl; rwa [← Nat.add_assoc] at this, by have := key 2 _ rfl; rwa [← Nat.add_assoc] at this⟩
theorem butSet {w w1 : World} (h : But w none w1) (a : Addr) (v : Value) (ha : w.heap.size ≤ a.block) : But w none (w1.setCell a v) :=
  ⟨h.os, h.tape, h.output, by rw [World.size_setCell]; exact h.size, fun x hx _ => (RowKit.Below.heap_setCell _ _ _ _ (by omega)).trans (h.block x hx (fun _ e => by cases e))⟩
theorem butAll {w w1 : World} (h : But w none w1) (o : Obj) : But w none (w1.alloc o) := h.trans (but_alloc _ _ _)
theorem find_calls (t : List Node) (p : ByteArray) (own : Bool) (hf : fitT t) (h9 : t.length = 9) (hp : p.size ≤ 1000000000) {w : World} {R : Nat → Prop} {v : Value} (hv : vrep w R TreeT t v) :
    Calls Tryz.prog 36 #[v, .string p, .bool own] w fun e w' => ∃ A c cs, e = .returned (.tuple #[fndV (if (findT t p own).2 = 0 then nodeT t (findT t p own).1 else dfltN) (findT t p own).1 (.slice A 9 c), .int .i64 (findT t p own).2]) ∧ 9 ≤ c ∧ c ≤ maxLen ∧ cs.length = 27 ∧ (∀ v ∈ cs, v.oneCell' = true) ∧ (∀ w R, repList (rep w R NodeT) t cs) ∧
      (∃ ad, A = some ad ∧ Mem w' ad (c * 3) cs ∧ w.heap.size ≤ ad.block) ∧ But w none w' := by
  have mixed : Tryz.prog.follows .mixedOrders = true := by kernel_rfl
  obtain ⟨b, o, c0, rfl, q1, q2, q3, q4⟩ := tree_cells hv (by omega)
  rw [h9] at hv ⊢
  obtain ⟨z, hz⟩ : ∃ z : Obj, z = .cells #[.int .i64 0, .int .i64 0, .string ⟨#[]⟩, .int .i64 0, .slice none 0 0] 63 := ⟨_, rfl⟩
  go_enter Tryz.func36, Tryz.ntmps36
  go_wp2_with fail
  rw [← hz]
  have b1 : But w none (w.alloc z) := but_alloc _ _ _
  have e1 : (w.alloc z).heap[w.heap.size]? = some z := (MapKept.heap_alloc w z).1
  refine (find_tree_calls t p own hf h9 hp (vrep_but hv b1)).mono ?_
  rintro _ w2 ⟨rfl, b2⟩
  have bw2 := b1.trans b2
  have e2 : w2.heap[w.heap.size]? = some z := (b2.block _ (by simp) (fun _ h => by cases h)).trans e1
  go_wp2_with fail
  refine (clone_calls t (by omega) (vrep_but hv bw2)).mono ?_
  rintro _ w3 ⟨A, c, cs, rfl, g1, g2, g3, g4, g5, g6, g7, b3⟩
  have bw3 := bw2.trans b3
  have e3 : w3.heap[w.heap.size]? = some z := (b3.block _ (Array.getElem?_eq_some_iff.1 e2).1 (fun _ h => by cases h)).trans e2
  rw [h9] at g1 g3 ⊢
  have hlt3 : w.heap.size < w3.heap.size := (Array.getElem?_eq_some_iff.1 e3).1
  have hbne : b ≠ w3.heap.size := by have := bw3.size; omega
  have hzne : w.heap.size ≠ w3.heap.size := by omega
  have hzb : w.heap.size ≠ b := by omega
  have z0 : w3.cell? ⟨w.heap.size, 0, none⟩ = some (.int .i64 0) := by simp [World.cell?, e3, hz]
  have z1 : w3.cell? ⟨w.heap.size, 1, none⟩ = some (.int .i64 0) := by simp [World.cell?, e3, hz]
  have z2 : w3.cell? ⟨w.heap.size, 2, none⟩ = some (.string ⟨#[]⟩) := by simp [World.cell?, e3, hz]
  have z3 : w3.cell? ⟨w.heap.size, 3, none⟩ = some (.int .i64 0) := by simp [World.cell?, e3, hz]
  have z4 : w3.cell? ⟨w.heap.size, 4, none⟩ = some (.slice none 0 0) := by simp [World.cell?, e3, hz]
  have f0 : w3.frozen? ⟨w.heap.size, 0, none⟩ = false := by simp [World.frozen?, e3, hz]
  have f1 : w3.frozen? ⟨w.heap.size, 1, none⟩ = false := by simp [World.frozen?, e3, hz]
  have f2 : w3.frozen? ⟨w.heap.size, 2, none⟩ = false := by simp [World.frozen?, e3, hz]
  have f3 : w3.frozen? ⟨w.heap.size, 3, none⟩ = false := by simp [World.frozen?, e3, hz]
  have f4 : w3.frozen? ⟨w.heap.size, 4, none⟩ = false := by simp [World.frozen?, e3, hz]
  have hrg := findT_range (t := t) (p := p) (own := own)
  rw [h9] at hrg
  clear hz
  by_cases h0 : (findT t p own).2 = 0
  · obtain ⟨h1, h2⟩ := hrg h0
    obtain ⟨i, hino⟩ : ∃ i : Nat, (findT t p own).1 = (i : Int) + 1 := ⟨((findT t p own).1 - 1).toNat, by omega⟩
    have hi : i < t.length := by omega
    obtain ⟨c0', c1', c2'⟩ := q4 i hi (w3.alloc (.cells #[.int .i64 0, .int .i64 0, .string ⟨#[]⟩, .int .i64 ((i : Int) + 1), .slice A 9 c] 63)) (((but_alloc w3 _ none).block b (Nat.lt_of_lt_of_le q3 bw3.size) (fun _ h => by cases h)).trans (bw3.block b q3 (fun _ h => by cases h)))
    have hn : nodeT t (findT t p own).1 = t[i] := by
      rw [hino]
      unfold nodeT
      rw [show ((i : Int) + 1 - 1).toNat = i by omega, List.getD_eq_getElem?_getD, List.getElem?_eq_getElem hi]
      rfl
    have hw1 : IntKind.i64.wrap ((i : Int) + 1 - 1) = (i : Int) := by rw [IntKind.wrap_i64]; omega
    have hi9 : i < 9 := by omega
    have hle : (i : Int) + 1 ≤ 9 := by omega
    rw [h0, hino]
    clear hrg h1 h2
    go_wp2_with fail
    have hA : A ≠ none := fun e => by
      rcases g6 with ⟨_, g6⟩ | ⟨ad, g6, _⟩
      · omega
      · rw [e] at g6; cases g6
    refine bodyPost_ret (v := .tuple #[fndV t[i] ((i : Int) + 1) (.slice A 9 c), .int .i64 0]) ((results_cell_tmp rfl _ _ _).trans ?_) rfl ?_
    · go_simp
      rfl
    · refine ⟨A, c, by rw [← hino, hn], g1, g2, cs, g3, g4, g5, ?_, ?_⟩
      · rcases g6 with ⟨_, g6⟩ | ⟨ad, rfl, g6⟩
        · omega
        · have hgt := g7 ad rfl
          have hge := bw2.size
          refine ⟨ad, rfl, g6.move ?_, by omega⟩
          have hw2 : w.heap.size < w2.heap.size := (Array.getElem?_eq_some_iff.1 e2).1
          have hlt := g6.block_lt
          rw [(but_alloc _ _ none).block _ (by simp only [World.size_setCell]; exact hlt) (fun _ h => by cases h)]
          repeat rw [RowKit.Below.heap_setCell _ _ _ _ (show ad.block ≠ w.heap.size by omega)]
      · exact butAll (butSet (butSet (butSet (butSet (butSet bw3 _ _ (Nat.le_refl _)) _ _ (Nat.le_refl _)) _ _ (Nat.le_refl _)) _ _ (Nat.le_refl _)) _ _ (Nat.le_refl _)) _
  · clear hrg
    go_wp2_with fail
    refine bodyPost_ret (v := .tuple #[fndV dfltN (findT t p own).1 (.slice A 9 c), .int .i64 (findT t p own).2]) ((results_cell_tmp rfl _ _ _).trans ?_) rfl ?_
    · go_simp
      rfl
    · refine ⟨A, c, rfl, g1, g2, cs, g3, g4, g5, ?_, ?_⟩
      · rcases g6 with ⟨_, g6⟩ | ⟨ad, rfl, g6⟩
        · omega
        · have hgt := g7 ad rfl
          have hge := bw2.size
          refine ⟨ad, rfl, g6.move ?_, by omega⟩
          have hw2 : w.heap.size < w2.heap.size := (Array.getElem?_eq_some_iff.1 e2).1
          have hlt := g6.block_lt
          rw [(but_alloc _ _ none).block _ (by simp only [World.size_setCell]; exact hlt) (fun _ h => by cases h)]
          repeat rw [RowKit.Below.heap_setCell _ _ _ _ (show ad.block ≠ w.heap.size by omega)]
      · exact butAll (butSet (butSet (butSet (butSet (butSet bw3 _ _ (Nat.le_refl _)) _ _ (Nat.le_refl _)) _ _ (Nat.le_refl _)) _ _ (Nat.le_refl _)) _ _ (Nat.le_refl _)) _
end Go.Proofs.YthhjlbpmpffapaaGreatDoor
