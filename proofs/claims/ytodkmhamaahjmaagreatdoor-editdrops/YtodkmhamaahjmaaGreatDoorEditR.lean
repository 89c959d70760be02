/- edit: two places at once, whatever the order: plain steps. -/
import Derived.Test.YtodkmhamaahjmaaGreatDoorG12
import Derived.Test.YtodkmhamaahjmaaGreatDoorEditM
import Derived.Test.YtodkmhamaahjmaaGreatDoorPDeep
import Derived.Test.YtodkmhamaahjmaaGreatDoorRegInv
set_option maxRecDepth 100000
set_option maxHeartbeats 1000000
set_option linter.unusedSimpArgs false
set_option linter.unusedVariables false
namespace Go.Proofs.YtodkmhamaahjmaaGreatDoor
open Go.Tm Go.IntWalk Go.RowKit
theorem cell_lt {w : World} {a : Addr} {v : Value} (h : w.cell? a = some v) : a.block < w.heap.size := by
  rcases Nat.lt_or_ge a.block w.heap.size with h1 | h1
  · exact h1
  · simp only [World.cell?, Array.getElem?_eq_none h1] at h
    cases h
theorem cell_keep {w w' : World} {a : Addr} {v : Value} (h : w.cell? a = some v) (hb : w'.heap[a.block]? = w.heap[a.block]?) : w'.cell? a = some v := by
  simp only [World.cell?, hb] at h ⊢
  exact h
theorem box2_set {w : World} {b : Nat} {u v : Value} {T : TypeId} (h : w.heap[b]? = some (.cells #[u, v] T)) (x y : Value) : ((w.setCell ⟨b, 0, none⟩ x).setCell ⟨b, 1, none⟩ y).heap[b]? = some (.cells #[x, y] T) := by
  unfold World.setCell
  simp only [Array.getElem?_modify, if_true, h]
  rfl
/-- What holds, whatever of it has been done. -/
structure RegI (wc : World) (b : Nat) (p f : ByteArray) (q u : Nat) (S nu : ByteArray) (l : Array Bool) (x5 x6 x18 x19 x20 x21 x22 x23 : Value) (w : World) : Prop where
  size : l.size = 10
  but : But wc none w
  h0 : l.getD 0 false = true → x18 = .pointer (some ⟨b, 0, none⟩)
  h1 : l.getD 1 false = true → x19 = .string p
  h2 : l.getD 2 false = true → x20 = .agg #[.int .i64 ((q : Int) + 1), .string S]
  h3 : l.getD 3 false = true → x21 = .pointer (some ⟨b, 0, none⟩)
  h4 : l.getD 4 false = true → x22 = .string f
  h5 : l.getD 5 false = true → x23 = .agg #[.int .i64 ((u : Int) + 1), .string nu]
  h6 : l.getD 6 false = true → ∃ s, x5 = .pointer (some ⟨s, 0, none⟩) ∧ wc.heap.size ≤ s ∧ w.heap[s]? = some (.cells (if l.getD 8 false = true then #[.int .i64 ((q : Int) + 1), .string S] else #[.int .i64 0, .string no]) 65)
  h7 : l.getD 7 false = true → ∃ s, x6 = .pointer (some ⟨s, 0, none⟩) ∧ wc.heap.size ≤ s ∧ w.heap[s]? = some (.cells (if l.getD 9 false = true then #[.int .i64 ((u : Int) + 1), .string nu] else #[.int .i64 0, .string no]) 65)
  ne : l.getD 6 false = true → l.getD 7 false = true → x5 ≠ x6
  h8 : l.getD 8 false = true → l.getD 6 false = true
  h9 : l.getD 9 false = true → l.getD 7 false = true
section
variable {wc : World} {b : Nat} {p f : ByteArray} {q u : Nat} {S nu : ByteArray} {l : Array Bool} {x5 x6 x18 x19 x20 x21 x22 x23 : Value} {w : World}
theorem regI_0 (h : RegI wc b p f q u S nu l x5 x6 x18 x19 x20 x21 x22 x23 w) : RegI wc b p f q u S nu (l.setIfInBounds 0 true) x5 x6 (.pointer (some ⟨b, 0, none⟩)) x19 x20 x21 x22 x23 w := by
  have E := fun j => list_set (i := 0) (j := j) h.size (by decide)
  exact ⟨by rw [Array.size_setIfInBounds]; exact h.size, h.but, fun _ => rfl, by simpa [E] using h.h1, by simpa [E] using h.h2, by simpa [E] using h.h3, by simpa [E] using h.h4, by simpa [E] using h.h5, by simpa [E] using h.h6, by simpa [E] using h.h7, by simpa [E] using h.ne, by simpa [E] using h.h8, by simpa [E] using h.h9⟩
theorem regI_1 (h : RegI wc b p f q u S nu l x5 x6 x18 x19 x20 x21 x22 x23 w) : RegI wc b p f q u S nu (l.setIfInBounds 1 true) x5 x6 x18 (.string p) x20 x21 x22 x23 w := by
  have E := fun j => list_set (i := 1) (j := j) h.size (by decide)
  exact ⟨by rw [Array.size_setIfInBounds]; exact h.size, h.but, by simpa [E] using h.h0, fun _ => rfl, by simpa [E] using h.h2, by simpa [E] using h.h3, by simpa [E] using h.h4, by simpa [E] using h.h5, by simpa [E] using h.h6, by simpa [E] using h.h7, by simpa [E] using h.ne, by simpa [E] using h.h8, by simpa [E] using h.h9⟩
theorem regI_3 (h : RegI wc b p f q u S nu l x5 x6 x18 x19 x20 x21 x22 x23 w) : RegI wc b p f q u S nu (l.setIfInBounds 3 true) x5 x6 x18 x19 x20 (.pointer (some ⟨b, 0, none⟩)) x22 x23 w := by
  have E := fun j => list_set (i := 3) (j := j) h.size (by decide)
  exact ⟨by rw [Array.size_setIfInBounds]; exact h.size, h.but, by simpa [E] using h.h0, by simpa [E] using h.h1, by simpa [E] using h.h2, fun _ => rfl, by simpa [E] using h.h4, by simpa [E] using h.h5, by simpa [E] using h.h6, by simpa [E] using h.h7, by simpa [E] using h.ne, by simpa [E] using h.h8, by simpa [E] using h.h9⟩
theorem regI_4 (h : RegI wc b p f q u S nu l x5 x6 x18 x19 x20 x21 x22 x23 w) : RegI wc b p f q u S nu (l.setIfInBounds 4 true) x5 x6 x18 x19 x20 x21 (.string f) x23 w := by
  have E := fun j => list_set (i := 4) (j := j) h.size (by decide)
  exact ⟨by rw [Array.size_setIfInBounds]; exact h.size, h.but, by simpa [E] using h.h0, by simpa [E] using h.h1, by simpa [E] using h.h2, by simpa [E] using h.h3, fun _ => rfl, by simpa [E] using h.h5, by simpa [E] using h.h6, by simpa [E] using h.h7, by simpa [E] using h.ne, by simpa [E] using h.h8, by simpa [E] using h.h9⟩
theorem RegI.move (h : RegI wc b p f q u S nu l x5 x6 x18 x19 x20 x21 x22 x23 w) {w' : World} (hb : But w none w') : RegI wc b p f q u S nu l x5 x6 x18 x19 x20 x21 x22 x23 w' :=
  ⟨h.size, h.but.trans hb, h.h0, h.h1, h.h2, h.h3, h.h4, h.h5, fun h6 => by obtain ⟨s, e1, e2, e3⟩ := h.h6 h6; exact ⟨s, e1, e2, but_box e3 hb⟩, fun h7 => by obtain ⟨s, e1, e2, e3⟩ := h.h7 h7; exact ⟨s, e1, e2, but_box e3 hb⟩, h.ne, h.h8, h.h9⟩
theorem regI_2 (h : RegI wc b p f q u S nu l x5 x6 x18 x19 x20 x21 x22 x23 w) : RegI wc b p f q u S nu (l.setIfInBounds 2 true) x5 x6 x18 x19 (.agg #[.int .i64 ((q : Int) + 1), .string S]) x21 x22 x23 w := by
  have E := fun j => list_set (i := 2) (j := j) h.size (by decide)
  exact ⟨by rw [Array.size_setIfInBounds]; exact h.size, h.but, by simpa [E] using h.h0, by simpa [E] using h.h1, fun _ => rfl, by simpa [E] using h.h3, by simpa [E] using h.h4, by simpa [E] using h.h5, by simpa [E] using h.h6, by simpa [E] using h.h7, by simpa [E] using h.ne, by simpa [E] using h.h8, by simpa [E] using h.h9⟩
theorem regI_5 (h : RegI wc b p f q u S nu l x5 x6 x18 x19 x20 x21 x22 x23 w) : RegI wc b p f q u S nu (l.setIfInBounds 5 true) x5 x6 x18 x19 x20 x21 x22 (.agg #[.int .i64 ((u : Int) + 1), .string nu]) w := by
  have E := fun j => list_set (i := 5) (j := j) h.size (by decide)
  exact ⟨by rw [Array.size_setIfInBounds]; exact h.size, h.but, by simpa [E] using h.h0, by simpa [E] using h.h1, by simpa [E] using h.h2, by simpa [E] using h.h3, by simpa [E] using h.h4, fun _ => rfl, by simpa [E] using h.h6, by simpa [E] using h.h7, by simpa [E] using h.ne, by simpa [E] using h.h8, by simpa [E] using h.h9⟩
theorem ptr_ne {s r : Nat} (h : s ≠ r) : Value.pointer (some ⟨s, 0, none⟩) ≠ Value.pointer (some ⟨r, 0, none⟩) := fun e => by
  injection e with e; injection e with e; injection e with e
  exact h e
theorem regI_6 (h : RegI wc b p f q u S nu l x5 x6 x18 x19 x20 x21 x22 x23 w) (hl : l.getD 6 false = false) : RegI wc b p f q u S nu (l.setIfInBounds 6 true) (.pointer (some ⟨w.heap.size, 0, none⟩)) x6 x18 x19 x20 x21 x22 x23 (w.alloc (.cells #[.int .i64 0, .string no] 65)) := by
  have E := fun j => list_set (i := 6) (j := j) h.size (by decide)
  have h8 : ¬ l.getD 8 false = true := fun e => by rw [h.h8 e] at hl; cases hl
  have hbs := h.but.size
  have hx6 : l.getD 7 false = true → Value.pointer (some ⟨w.heap.size, 0, none⟩) ≠ x6 := fun h7 => by
    obtain ⟨s, e1, _, e3⟩ := h.h7 h7
    have := (Array.getElem?_eq_some_iff.1 e3).1
    rw [e1]; exact ptr_ne (by omega)
  have h := h.move (but_alloc w (.cells #[.int .i64 0, .string no] 65) none)
  exact ⟨by rw [Array.size_setIfInBounds]; exact h.size, h.but, by simpa [E] using h.h0, by simpa [E] using h.h1, by simpa [E] using h.h2, by simpa [E] using h.h3, by simpa [E] using h.h4, by simpa [E] using h.h5, fun _ => ⟨w.heap.size, rfl, hbs, by simpa [E, h8] using (MapKept.heap_alloc w (.cells #[.int .i64 0, .string no] 65)).1⟩, by simpa [E] using h.h7, fun _ h7 => hx6 (by simpa [E] using h7), fun _ => by simp [E], by simpa [E] using h.h9⟩
theorem regI_7 (h : RegI wc b p f q u S nu l x5 x6 x18 x19 x20 x21 x22 x23 w) (hl : l.getD 7 false = false) : RegI wc b p f q u S nu (l.setIfInBounds 7 true) x5 (.pointer (some ⟨w.heap.size, 0, none⟩)) x18 x19 x20 x21 x22 x23 (w.alloc (.cells #[.int .i64 0, .string no] 65)) := by
  have E := fun j => list_set (i := 7) (j := j) h.size (by decide)
  have h9 : ¬ l.getD 9 false = true := fun e => by rw [h.h9 e] at hl; cases hl
  have hbs := h.but.size
  have hx5 : l.getD 6 false = true → x5 ≠ Value.pointer (some ⟨w.heap.size, 0, none⟩) := fun h6 => by
    obtain ⟨s, e1, _, e3⟩ := h.h6 h6
    have := (Array.getElem?_eq_some_iff.1 e3).1
    rw [e1]; exact ptr_ne (by omega)
  have h := h.move (but_alloc w (.cells #[.int .i64 0, .string no] 65) none)
  exact ⟨by rw [Array.size_setIfInBounds]; exact h.size, h.but, by simpa [E] using h.h0, by simpa [E] using h.h1, by simpa [E] using h.h2, by simpa [E] using h.h3, by simpa [E] using h.h4, by simpa [E] using h.h5, by simpa [E] using h.h6, fun _ => ⟨w.heap.size, rfl, hbs, by simpa [E, h9] using (MapKept.heap_alloc w (.cells #[.int .i64 0, .string no] 65)).1⟩, fun h6 _ => hx5 (by simpa [E] using h6), by simpa [E] using h.h8, fun _ => by simp [E]⟩
theorem but_two {w w1 : World} (h : But w none w1) {s : Nat} (hs : w.heap.size ≤ s) (x y : Value) : But w none ((w1.setCell ⟨s, 0, none⟩ x).setCell ⟨s, 1, none⟩ y) := butSet (butSet h _ _ hs) _ _ hs
theorem heap_two {w : World} {s r : Nat} {o : Obj} (h : w.heap[r]? = some o) (hn : ¬ r = s) (x y : Value) : ((w.setCell ⟨s, 0, none⟩ x).setCell ⟨s, 1, none⟩ y).heap[r]? = some o := box_ne _ _ (box_ne _ _ h hn) hn
theorem regI_8 (h : RegI wc b p f q u S nu l x5 x6 x18 x19 x20 x21 x22 x23 w) {s : Nat} (hs : x5 = .pointer (some ⟨s, 0, none⟩)) (h6 : l.getD 6 false = true) : RegI wc b p f q u S nu (l.setIfInBounds 8 true) x5 x6 x18 x19 x20 x21 x22 x23 ((w.setCell ⟨s, 0, none⟩ (.int .i64 ((q : Int) + 1))).setCell ⟨s, 1, none⟩ (.string S)) := by
  have E := fun j => list_set (i := 8) (j := j) h.size (by decide)
  obtain ⟨s', e1, e2, e3⟩ := h.h6 h6
  have es : s' = s := by rw [hs] at e1; injection e1 with e1; injection e1 with e1; injection e1 with e1; exact e1.symm
  subst es
  have e4 : ((w.setCell ⟨s', 0, none⟩ (.int .i64 ((q : Int) + 1))).setCell ⟨s', 1, none⟩ (.string S)).heap[s']? = some (.cells #[.int .i64 ((q : Int) + 1), .string S] 65) := by
    split at e3
    · exact box2_set e3 _ _
    · exact box2_set e3 _ _
  refine ⟨by rw [Array.size_setIfInBounds]; exact h.size, but_two h.but e2 _ _, by simpa [E] using h.h0, by simpa [E] using h.h1, by simpa [E] using h.h2, by simpa [E] using h.h3, by simpa [E] using h.h4, by simpa [E] using h.h5, fun _ => ⟨s', hs, e2, by simpa [E] using e4⟩, fun h7 => ?_, by simpa [E] using h.ne, fun _ => by simpa [E] using h6, by simpa [E] using h.h9⟩
  have h7' : l.getD 7 false = true := by simpa [E] using h7
  obtain ⟨r, f1, f2, f3⟩ := h.h7 h7'
  have hne : ¬ r = s' := fun e => h.ne h6 h7' (by rw [hs, f1, e])
  exact ⟨r, f1, f2, by simpa [E] using heap_two f3 hne _ _⟩
theorem regI_9 (h : RegI wc b p f q u S nu l x5 x6 x18 x19 x20 x21 x22 x23 w) {s : Nat} (hs : x6 = .pointer (some ⟨s, 0, none⟩)) (h7 : l.getD 7 false = true) : RegI wc b p f q u S nu (l.setIfInBounds 9 true) x5 x6 x18 x19 x20 x21 x22 x23 ((w.setCell ⟨s, 0, none⟩ (.int .i64 ((u : Int) + 1))).setCell ⟨s, 1, none⟩ (.string nu)) := by
  have E := fun j => list_set (i := 9) (j := j) h.size (by decide)
  obtain ⟨s', e1, e2, e3⟩ := h.h7 h7
  have es : s' = s := by rw [hs] at e1; injection e1 with e1; injection e1 with e1; injection e1 with e1; exact e1.symm
  subst es
  have e4 : ((w.setCell ⟨s', 0, none⟩ (.int .i64 ((u : Int) + 1))).setCell ⟨s', 1, none⟩ (.string nu)).heap[s']? = some (.cells #[.int .i64 ((u : Int) + 1), .string nu] 65) := by
    split at e3
    · exact box2_set e3 _ _
    · exact box2_set e3 _ _
  refine ⟨by rw [Array.size_setIfInBounds]; exact h.size, but_two h.but e2 _ _, by simpa [E] using h.h0, by simpa [E] using h.h1, by simpa [E] using h.h2, by simpa [E] using h.h3, by simpa [E] using h.h4, by simpa [E] using h.h5, fun h6 => ?_, fun _ => ⟨s', hs, e2, by simpa [E] using e4⟩, by simpa [E] using h.ne, by simpa [E] using h.h8, fun _ => by simpa [E] using h7⟩
  have h6' : l.getD 6 false = true := by simpa [E] using h6
  obtain ⟨r, f1, f2, f3⟩ := h.h6 h6'
  have hne : ¬ r = s' := fun e => h.ne h6' h7 (by rw [hs, f1, e])
  exact ⟨r, f1, f2, by simpa [E] using heap_two f3 hne _ _⟩
end
end Go.Proofs.YtodkmhamaahjmaaGreatDoor
