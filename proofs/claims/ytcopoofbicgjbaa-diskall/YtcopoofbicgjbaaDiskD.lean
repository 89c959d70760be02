/- disk.Read: on the machine. -/
import Derived.Test.YtcopoofbicgjbaaDiskB
set_option maxRecDepth 100000
set_option maxHeartbeats 4000000
set_option linter.unusedSimpArgs false
set_option linter.unusedVariables false
set_option pp.deepTerms.threshold 20
namespace Go.Proofs.Ytcopoofbicgjbaa
open Go.Tm Go.IntWalk Go.RowKit Go.Shelf
attribute [local go_sem] Oper.semAt_some
theorem heap_own {β : Type} (B : Nat) (o : β → Obj) (ho : ∀ s, (o s).isCells = true) : Own (fun s W => W.heap[B]? = some (o s)) := fun s X Y row hs hg hr =>
  (hg.block B (Array.getElem?_eq_some_iff.1 hs).1 (fun e => by
    obtain ⟨o', h1, h2⟩ := hr B e.symm
    rw [show X.heap[B]? = some (o s) from hs] at h1; cases h1; rw [ho] at h2; cases h2)).trans hs
theorem lastN_back (l : List Pt) (i : Int) : ∀ k, k ≤ l.length → (∀ p ∈ upto (backF l) k, p.2.1 ≠ i) → lastN l i l.length = lastN l i (l.length - k)
  | 0, _, _ => rfl
  | k + 1, h, hp => by
    rw [upto_succ] at hp
    rw [lastN_back l i k (by omega) (fun p hp' => hp p (List.mem_append_left _ hp'))]
    have h1 := hp (backF l k) (List.mem_append_right _ (List.mem_singleton.2 rfl))
    rw [show l.length - k = (l.length - (k + 1)) + 1 by omega, lastN]
    rw [backF, show l.length - 1 - k = l.length - (k + 1) by omega] at h1
    rw [if_neg (by simpa using h1)]
theorem box1 {w : World} {b : Nat} {v : Value} {T : TypeId} (h : w.heap[b]? = some (.cells #[v] T)) : w.cell? ⟨b, 0, none⟩ = some v ∧ w.frozen? ⟨b, 0, none⟩ = false ∧ b < w.heap.size := by
  refine ⟨?_, ?_, (Array.getElem?_eq_some_iff.1 h).1⟩ <;> simp [World.cell?, World.frozen?, h]
theorem five (w : World) (o0 o1 o2 o3 o4 : Obj) : ∃ W, (((((w.alloc o0).alloc o1).alloc o2).alloc o3).alloc o4) = W ∧ W.heap[w.heap.size]? = some o0 ∧ W.heap[w.heap.size + 1]? = some o1 ∧ W.heap[w.heap.size + 1 + 1]? = some o2 ∧ W.heap[w.heap.size + 1 + 1 + 1]? = some o3 ∧
    W.heap[w.heap.size + 1 + 1 + 1 + 1]? = some o4 ∧ RowKit.Below w.heap.size w W ∧ W.heap.size = w.heap.size + 1 + 1 + 1 + 1 + 1 := by
  have s1 := World.size_alloc w o0
  have s2 := World.size_alloc (w.alloc o0) o1
  have s3 := World.size_alloc ((w.alloc o0).alloc o1) o2
  have s4 := World.size_alloc (((w.alloc o0).alloc o1).alloc o2) o3
  have s5 := World.size_alloc ((((w.alloc o0).alloc o1).alloc o2).alloc o3) o4
  rw [s1] at s2; rw [s2] at s3; rw [s3] at s4; rw [s4] at s5
  have a0 := (MapKept.heap_alloc w o0).1
  have a1 := (MapKept.heap_alloc (w.alloc o0) o1).1
  have a2 := (MapKept.heap_alloc ((w.alloc o0).alloc o1) o2).1
  have a3 := (MapKept.heap_alloc (((w.alloc o0).alloc o1).alloc o2) o3).1
  have a4 := (MapKept.heap_alloc ((((w.alloc o0).alloc o1).alloc o2).alloc o3) o4).1
  rw [s1] at a1; rw [s2] at a2; rw [s3] at a3; rw [s4] at a4
  refine ⟨_, rfl, but_box a0 ((((but_alloc _ _ none).trans (but_alloc _ _ none)).trans (but_alloc _ _ none)).trans (but_alloc _ _ none)), but_box a1 (((but_alloc _ _ none).trans (but_alloc _ _ none)).trans (but_alloc _ _ none)), but_box a2 ((but_alloc _ _ none).trans (but_alloc _ _ none)), but_box a3 (but_alloc _ _ none), a4, ?_, s5⟩
  have hb : But w none (((((w.alloc o0).alloc o1).alloc o2).alloc o3).alloc o4) := ((((but_alloc _ _ none).trans (but_alloc _ _ none)).trans (but_alloc _ _ none)).trans (but_alloc _ _ none)).trans (but_alloc _ _ none)
  exact ⟨hb.os, hb.tape, hb.output, hb.size, fun k hk => hb.block k hk (fun _ h => by cases h)⟩
theorem box2 {w : World} {b : Nat} {u v : Value} {T : TypeId} (h : w.heap[b]? = some (.cells #[u, v] T)) : w.cell? ⟨b, 0, none⟩ = some u ∧ w.cell? ⟨b, 1, none⟩ = some v ∧ b < w.heap.size := by
  refine ⟨?_, ?_, (Array.getElem?_eq_some_iff.1 h).1⟩ <;> simp [World.cell?, h]
theorem str_cells {w : World} {R : Nat → Prop} {l : List ByteArray} {A : Option Addr} {c : Nat} (hv : vrep w R (.slice .str) l (.slice A l.length c)) (k : Nat) (hk : k < l.length) : ∃ ab ao, A = some ⟨ab, ao, none⟩ ∧ w.cell? ⟨ab, ao + k, none⟩ = some (.string l[k]) ∧ ab < w.heap.size := by
  obtain ⟨csv, ⟨A', c', e1, h1, h2, h3⟩, e⟩ := hv
  subst e1
  have e : Value.slice A l.length c = .slice A' l.length c' := e
  injection e with e2 e3 e4
  subst e2 e4
  rcases h3 with rfl | ⟨⟨ab, ao, sp⟩, inner, rfl, h4, h5, h6, h7⟩
  · simp at hk
  have hget := h6.get (n := 1) (fun x c hx => rep_len .str hx) k l[k] (List.getElem?_eq_getElem hk)
  have hget : (inner.drop (k * 1)).take 1 = [.string l[k]] := hget
  have e2 : inner[k]? = some (.string l[k]) := by
    have h := congrArg (fun z => z[0]?) hget
    simp only [List.getElem?_take, List.getElem?_drop] at h
    simpa using h
  have hsp : sp = none := by
    cases sp with
    | none => rfl
    | some s =>
      exfalso
      have h0 : 0 < inner.length := by have := (List.getElem?_eq_some_iff.1 e2).1; omega
      have := h7 0 _ (List.getElem?_eq_getElem h0)
      simp [Addr.add, World.cell?] at this
      split at this <;> simp at this
  subst hsp
  exact ⟨ab, ao, rfl, by have := h7 k _ e2; rwa [Addr.add_lit] at this, h5⟩
theorem below_but {w w' : World} (h : RowKit.Below w.heap.size w w') : But w none w' := ⟨h.os, h.tape, h.output, h.size, fun x hx _ => h.block x hx⟩
def rdI (w w6 : World) (o0 : Obj) (k : Nat) (pre : List (Nat × Pt)) (W : World) : Prop :=
  ((∀ p ∈ pre, p.2.1 ≠ (k : Int)) ∧ W.heap[w.heap.size]? = some o0 ∧ W.heap[w.heap.size + 1]? = some (.cells #[.int .i64 (k : Int)] 3) ∧ W.heap[w.heap.size + 1 + 1]? = some (.cells #[.string { data := #[] }] 9) ∧ W.heap[w.heap.size + 1 + 1 + 1]? = some (.cells #[.bool false] 4) ∧ w6.heap.size ≤ W.heap.size) ∧ RowKit.Below w.heap.size w W
def rdX (w : World) (k : Nat) (c : Code) (pre : List (Nat × Pt)) (W : World) : Prop :=
  (c = .ret ∧ ∃ ini last, pre = ini ++ [last] ∧ (∀ p ∈ ini, p.2.1 ≠ (k : Int)) ∧ last.2.1 = (k : Int) ∧ W.heap[w.heap.size + 1 + 1]? = some (.cells #[.string last.2.2.1] 9) ∧ W.heap[w.heap.size + 1 + 1 + 1]? = some (.cells #[.bool true] 4)) ∧ RowKit.Below w.heap.size w W
theorem rdI_own (w w6 : World) (o0 : Obj) (k : Nat) (ho : o0.isCells = true) {B : Nat} (hB : w.heap.size ≤ B) : OwnFrom B (rdI w w6 o0 k) :=
  OwnFrom.and (I := fun (pre : List (Nat × Pt)) W => (∀ p ∈ pre, p.2.1 ≠ (k : Int)) ∧ W.heap[w.heap.size]? = some o0 ∧ W.heap[w.heap.size + 1]? = some (.cells #[.int .i64 (k : Int)] 3) ∧ W.heap[w.heap.size + 1 + 1]? = some (.cells #[.string { data := #[] }] 9) ∧ W.heap[w.heap.size + 1 + 1 + 1]? = some (.cells #[.bool false] 4) ∧ w6.heap.size ≤ W.heap.size)
    (Own.from (fun s X Y row hs hg hr => ⟨hs.1, heap_own _ (fun (_ : Unit) => o0) (fun _ => ho) () X Y row hs.2.1 hg hr, heap_own _ (fun (_ : Unit) => _) (fun _ => rfl) () X Y row hs.2.2.1 hg hr, heap_own _ (fun (_ : Unit) => _) (fun _ => rfl) () X Y row hs.2.2.2.1 hg hr, heap_own _ (fun (_ : Unit) => _) (fun _ => rfl) () X Y row hs.2.2.2.2.1 hg hr, Nat.le_trans hs.2.2.2.2.2 hg.size⟩) _) (ownFrom_below (Nat.le_refl _) hB)
theorem rdX_own (w : World) (k : Nat) (c : Code) {B : Nat} (hB : w.heap.size ≤ B) : OwnFrom B (rdX w k c) :=
  OwnFrom.and (I := fun (pre : List (Nat × Pt)) W => c = .ret ∧ ∃ (ini : List (Nat × Pt)) (last : Nat × Pt), pre = ini ++ [last] ∧ (∀ p ∈ ini, p.2.1 ≠ (k : Int)) ∧ last.2.1 = (k : Int) ∧ W.heap[w.heap.size + 1 + 1]? = some (.cells #[.string last.2.2.1] 9) ∧ W.heap[w.heap.size + 1 + 1 + 1]? = some (.cells #[.bool true] 4)) (Own.from (fun s X Y row hs hg hr => by
    obtain ⟨hc, ini, last, e1, e2, e3, e4, e5⟩ := hs
    exact ⟨hc, ini, last, e1, e2, e3, heap_own _ (fun (_ : Unit) => _) (fun _ => rfl) () X Y row e4 hg hr, heap_own _ (fun (_ : Unit) => _) (fun _ => rfl) () X Y row e5 hg hr⟩) _) (ownFrom_below (Nat.le_refl _) hB)
theorem box1_set {w : World} {b : Nat} {u : Value} {T : TypeId} (h : w.heap[b]? = some (.cells #[u] T)) (v : Value) : (w.setCell ⟨b, 0, none⟩ v).heap[b]? = some (.cells #[v] T) := by
  unfold World.setCell
  simp only [Array.getElem?_modify, if_true, h]
  rfl
theorem read_calls (d : Dk) (i : Int) (hd : okD d) {w : World} {R : Nat → Prop} {v : Value} (hv : vrep w R DkT d v) :
    Calls Try.prog 15 #[v, .int .i64 i] w fun e w' => e = .returned (.tuple #[.string (readK d i).1, .bool (readK d i).2]) ∧ But w none w' := by
  have mixed : Try.prog.follows .mixedOrders = true := by kernel_rfl
  obtain ⟨A1, k1, A2, k2, rfl, hv1, hv2⟩ := dk_cells hv
  refine (callsIn_wide (n := 9)).1 ?_
  refine callsIn_of_wp_marks Try.func15 rfl trivial ?_ rfl
  simp only [Try.ntmps15, List.size_toArray, List.length_cons, List.length_nil, Nat.reduceAdd, Nat.reduceSub, Array.replicate_succ, Array.replicate_zero, List.push_toArray, List.append_toArray, List.nil_append, List.cons_append]
  gi_wp2
  obtain ⟨W, eW, g0, g1, g2, g3, g4, hB0, hsz⟩ := five w (.cells #[.slice A1 d.1.length k1, .slice A2 d.2.1.length k2, .int .i64 d.2.2.1, .bool d.2.2.2.1] 28) (.cells #[.int .i64 i] 3) (.cells #[.string { data := #[] }] 9) (.cells #[.bool false] 4) (.cells #[.slice A1 d.1.length k1, .slice A2 d.2.1.length k2, .int .i64 d.2.2.1, .bool d.2.2.2.1] 54)
  rw [eW]
  refine ⟨trivial, (callsIn_wide.2 (there_calls d hd i g4)).mono ?_⟩
  rintro _ w' ⟨rfl, rfl⟩
  have e0 := box4 g0
  obtain ⟨x0, x1, x2, x3, y0, y1, y2, y3, x4⟩ := e0
  obtain ⟨z1, f1, _⟩ := box1 g1
  obtain ⟨z2, f2, _⟩ := box1 g2
  obtain ⟨z3, f3, _⟩ := box1 g3
  by_cases hk : isK d i = true
  case neg =>
    have hk : isK d i = false := by simpa using hk
    rw [hk]
    gi_wp2
    refine ⟨.tuple #[.string { data := #[] }, .bool false], ?_, ?_, ?_⟩
    · simp [results, Try.f15, go_sem, z2, z3]
    · rw [readK, if_neg (by rw [hk]; exact Bool.false_ne_true)]
    · exact butSet (butSet (below_but hB0) _ _ (by show w.heap.size ≤ w.heap.size + 1 + 1; omega)) _ _ (by show w.heap.size ≤ w.heap.size + 1 + 1 + 1; omega)
  case pos =>
    have hk0 := hk
    rw [isK, Bool.and_eq_true, Bool.and_eq_true] at hk0
    obtain ⟨⟨_, hk1⟩, hk2⟩ := hk0
    obtain ⟨k, rfl⟩ : ∃ k : Nat, i = (k : Int) := ⟨i.toNat, (Int.toNat_of_nonneg (of_decide_eq_true hk1)).symm⟩
    have hkl : k < d.1.length := Int.ofNat_lt.1 (of_decide_eq_true hk2)
    have hR : Hid (readK d (k : Int) = ((lastW d.2.1 (k : Int)).getD (d.1.getD k no), true)) := by show _ = _; rw [readK, if_pos hk, Int.toNat_natCast]
    rw [hk]
    gi_wp2
    refine ⟨trivial, (back_in Fence.wide _ trivial rfl _ _ _ _).mono ?_⟩
    rintro _ W6 ⟨rfl, eW6⟩
    gi_wp2
    have bN := (MapKept.heap_alloc w' (.cells #[.slice A2 d.2.1.length k2] 26)).1
    have sN := World.size_alloc w' (.cells #[.slice A2 d.2.1.length k2] 26)
    have hBw : RowKit.Below w.heap.size w (w'.alloc (.cells #[.slice A2 d.2.1.length k2] 26)) := hB0.alloc (by rw [hsz]; omega) _
    have hBn : But w' none (w'.alloc (.cells #[.slice A2 d.2.1.length k2] 26)) := but_alloc _ _ _
    rw [← eW6] at bN sN hBw hBn ⊢
    have g0 := but_box g0 hBn
    have g1 := but_box g1 hBn
    have g2 := but_box g2 hBn
    have g3 := but_box g3 hBn
    rw [hsz] at bN sN
    obtain ⟨zN, _, _⟩ := box1 bN
    have hI := (puts_at hv2).below hBw
    obtain ⟨rb, ro, rfl, rc, rs⟩ := str_cells hv1 k hkl
    clear eW6 x0 x1 x2 x3 y0 y1 y2 y3 x4 z1 f1 z2 f2 z3 f3
    refine wpIn_rangeFunc_ownH rfl (by decide) (gf := 39) (lb := #[.pointer (some ⟨w.heap.size + 1 + 1 + 1 + 1 + 1, 0, none⟩)]) (by rw [← hsz]; rfl) trivial (enters_of Try.func39 (by kernel_rfl) rfl)
      (back_stops Fence.wide _ trivial rfl (by decide) (w.heap.size + 1 + 1 + 1 + 1 + 1) W6.heap.size k2 A2 d.2.1 hd.2.1 W6 (by rw [sN]; exact Nat.lt_succ_self _) (Nat.le_refl _) (by rw [sN]; exact Nat.lt_succ_self _) zN (fun j hj => by obtain ⟨ab, ao, e, h1, h2⟩ := hI j hj; exact ⟨ab, ao, e, by rw [sN]; omega, h2⟩)) belowK_t (belowK_b (Nat.le_refl _)) (Below.refl _ _) (fun _ => rfl)
      (rdI w W6 (.cells #[.slice (some ⟨rb, ro, none⟩) d.1.length k1, .slice A2 d.2.1.length k2, .int .i64 d.2.2.1, .bool d.2.2.2.1] 28) k) (rdX w k)
      (rdI_own _ _ _ _ rfl (by rw [sN]; omega)) (fun c => rdX_own _ _ _ (by rw [sN]; omega))
      ⟨⟨fun p hp => (by cases hp), g0, g1, g2, g3, Nat.le_refl _⟩, hBw⟩
      (fun x a' W => ∃ Bx, W6.heap.size ≤ Bx ∧ W.heap[Bx]? = some (.cells #[.int .i64 x.2.1, .string x.2.2.1] 56) ∧ a' = { tmps := #[.agg #[.slice (some ⟨rb, ro, none⟩) d.1.length k1, .slice A2 d.2.1.length k2, .int .i64 d.2.2.1, .bool d.2.2.2.1], .int .i64 (k : Int), .pointer (some ⟨w.heap.size, 0, none⟩), .pointer (some ⟨w.heap.size + 1, 0, none⟩), .pointer (some ⟨w.heap.size + 1 + 1, 0, none⟩), .pointer (some ⟨w.heap.size + 1 + 1 + 1, 0, none⟩), .pointer (some ⟨w.heap.size + 1 + 1 + 1 + 1, 0, none⟩), undef, .pointer (some ⟨Bx, 0, none⟩), .agg #[.slice (some ⟨rb, ro, none⟩) d.1.length k1, .slice A2 d.2.1.length k2, .int .i64 d.2.2.1, .bool d.2.2.2.1], .agg #[.slice (some ⟨rb, ro, none⟩) d.1.length k1, .slice A2 d.2.1.length k2, .int .i64 d.2.2.1, .bool d.2.2.2.1], .pointer (some ⟨w.heap.size + 1 + 1 + 1 + 1, 0, none⟩), .pointer (some ⟨w.heap.size + 1 + 1 + 1 + 1, 0, none⟩), .int .i64 (k : Int), .bool true, .bool false, .pointer (some ⟨w.heap.size, 1, none⟩), .slice A2 d.2.1.length k2, .func (.func 39) #[] #[.pointer (some ⟨w'.heap.size, 0, none⟩)], .int .i64 (x.1 : Int), .agg #[.int .i64 x.2.1, .string x.2.2.1], undef, undef, undef, undef, undef, undef, undef, undef, undef, undef, undef], defers := [] })
      (fun x a' _ X Y row hs hg hr => by obtain ⟨Bx, e1, e2, e3⟩ := hs; exact ⟨Bx, e1, heap_own _ (fun (_ : Unit) => _) (fun _ => rfl) () X Y row e2 hg (fun r e => (hr r e).2), e3⟩)
      ?assign ?body ?done ?stop
    case assign =>
      rintro l pre x W K hI hK
      gi_wp2
      obtain ⟨⟨hp, b0, b1, b2, b3, b4⟩, hB1⟩ := hI
      have hA : But W none (W.alloc (.cells #[.int .i64 x.2.1, .string x.2.2.1] 56)) := but_alloc _ _ _
      exact hK _ _ ((KeepsOthers.alloc _ _).from _) ((Below.refl _ W).alloc (by first | exact b4 | (rw [← sN]; exact b4)) _) ⟨⟨hp, but_box b0 hA, but_box b1 hA, but_box b2 hA, but_box b3 hA, Nat.le_trans b4 hA.size⟩, hB1.alloc hB1.size _⟩ ⟨W.heap.size, b4, (MapKept.heap_alloc W _).1, by rw [hsz]⟩
    case body =>
      rintro l pre ⟨x0, x1, x2, ⟨⟩⟩ a' W hl ⟨r, hr⟩ hI ⟨Bx, hBx, bX, rfl⟩ hlt
      obtain ⟨⟨hp, b0, b1, b2, b3, b4⟩, hB1⟩ := hI
      obtain ⟨m0, m1, m2⟩ := box2 bX
      obtain ⟨z1, f1, _⟩ := box1 b1
      obtain ⟨z2, f2, _⟩ := box1 b2
      obtain ⟨z3, f3, _⟩ := box1 b3
      gi_wp2
      · have hx : x1 = (k : Int) := by first | assumption | (rename_i h; simpa using h)
        refine ⟨((KeepsOthers.setCell _ _ _).trans (KeepsOthers.setCell _ _ _)).from _, ⟨⟨rfl, pre, (x0, x1, x2, ()), rfl, hp, hx, box_ne 0 _ (box1_set b2 _) (Nat.ne_of_lt (Nat.lt_succ_self _)), box1_set (box_ne 0 _ b3 (Nat.ne_of_gt (Nat.lt_succ_self _))) _⟩, (hB1.setCell (p := ⟨w.heap.size + 1 + 1, 0, none⟩) (Nat.le_trans (Nat.le_succ _) (Nat.le_succ _)) _).setCell (p := ⟨w.heap.size + 1 + 1 + 1, 0, none⟩) (Nat.le_trans (Nat.le_trans (Nat.le_succ _) (Nat.le_succ _)) (Nat.le_succ _)) _⟩⟩
      · have hx : x1 ≠ (k : Int) := by first | assumption | (rename_i h; simpa using h)
        exact ⟨KeepsFrom.refl _ _, Below.refl _ _, ⟨⟨fun p hp' => (List.mem_append.1 hp').elim (hp p) (fun e => by rw [List.mem_singleton.1 e]; exact hx), b0, b1, b2, b3, b4⟩, hB1⟩⟩
    case done =>
      rintro D zs W hD rfl hI hK
      obtain ⟨⟨hp, b0, b1, b2, b3, b4⟩, hB1⟩ := hI
      obtain ⟨x0, x1, x2, x3, y0, y1, y2, y3, x4⟩ := box4 b0
      obtain ⟨z1, f1, _⟩ := box1 b1
      obtain ⟨z2, f2, _⟩ := box1 b2
      obtain ⟨z3, f3, _⟩ := box1 b3
      have rc' := (hB1.cell (p := ⟨rb, ro + k, none⟩) rs).trans rc
      have hkI : (k : Int) < (d.1.length : Int) := Int.ofNat_lt.2 hkl
      gi_wp2
      have hK' := ((KeepsOthers.setCell W ⟨w.heap.size + 1 + 1, 0, none⟩ (.string d.1[k])).trans (KeepsOthers.setCell _ ⟨w.heap.size + 1 + 1 + 1, 0, none⟩ (.bool true))).same D _ hK rfl
      refine ⟨by simp, .inl ⟨_, _, rfl, run_takeDeferred hK', ?_⟩⟩
      have hB2 := (hB1.setCell (p := ⟨w.heap.size + 1 + 1, 0, none⟩) (Nat.le_trans (Nat.le_succ _) (Nat.le_succ _)) (.string d.1[k])).setCell (p := ⟨w.heap.size + 1 + 1 + 1, 0, none⟩) (Nat.le_trans (Nat.le_trans (Nat.le_succ _) (Nat.le_succ _)) (Nat.le_succ _)) (.bool true)
      have q2 := (box1 (box_ne 0 (.bool true) (box1_set b2 (.string d.1[k])) (Nat.ne_of_lt (Nat.lt_succ_self _)))).1
      have q3 := (box1 (box1_set (box_ne 0 (.string d.1[k]) b3 (Nat.ne_of_gt (Nat.lt_succ_self _))) (.bool true))).1
      have c2 := cell_kept q2 (grownBy_putObj' _ D (.deferred none)) (fun r e => by cases e; exact ⟨_, hK', rfl⟩)
      have c3 := cell_kept q3 (grownBy_putObj' _ D (.deferred none)) (fun r e => by cases e; exact ⟨_, hK', rfl⟩)
      have eW : lastW d.2.1 (k : Int) = none := by
        rw [lastW, lastN_back _ _ d.2.1.length (Nat.le_refl _) hp, Nat.sub_self]; rfl
      refine ⟨.tuple #[.string d.1[k], .bool true], ?_, ?_, below_but (hB2.trans (belowK_b (w := w) (Nat.le_refl _) _ D _ _ (Nat.le_trans hBw.size hD) hK' rfl rfl))⟩
      · simp [results, Try.f15, go_sem, c2, c3]
      · rw [hR.out, eW, List.getD_eq_getElem?_getD, List.getElem?_eq_getElem hkl]; rfl
    case stop =>
      rintro D c pre W hD ⟨k', hk', rfl⟩ hX hK
      obtain ⟨⟨rfl, ini, last, e1, e2, e3, b2, b3⟩, hB1⟩ := hX
      gi_wp2
      refine ⟨by simp, .inl ⟨_, _, rfl, run_takeDeferred hK, ?_⟩⟩
      have c2 := cell_kept (box1 b2).1 (grownBy_putObj' _ D (.deferred none)) (fun r e => by cases e; exact ⟨_, hK, rfl⟩)
      have c3 := cell_kept (box1 b3).1 (grownBy_putObj' _ D (.deferred none)) (fun r e => by cases e; exact ⟨_, hK, rfl⟩)
      obtain ⟨k'', rfl⟩ : ∃ k'', k' = k'' + 1 := by
        cases k' with
        | zero => simp [upto] at e1
        | succ k'' => exact ⟨k'', rfl⟩
      rw [upto_succ] at e1
      obtain ⟨rfl, e5⟩ := List.append_inj' e1 rfl
      obtain rfl : backF d.2.1 k'' = last := by simpa using e5
      have eW : lastW d.2.1 (k : Int) = some (backF d.2.1 k'').2.2.1 := by
        rw [lastW, lastN_back _ _ k'' (by omega) e2, show d.2.1.length - k'' = (d.2.1.length - (k'' + 1)) + 1 by omega, lastN]
        have e3' := e3
        rw [backF, show d.2.1.length - 1 - k'' = d.2.1.length - (k'' + 1) by omega] at e3'
        rw [if_pos (by simpa using e3'), backF, show d.2.1.length - 1 - k'' = d.2.1.length - (k'' + 1) by omega]
      refine ⟨.tuple #[.string (backF d.2.1 k'').2.2.1, .bool true], ?_, ?_, below_but (hB1.trans (belowK_b (w := w) (Nat.le_refl _) W D _ _ (Nat.le_trans hBw.size hD) hK rfl rfl))⟩
      · simp [results, Try.f15, go_sem, c2, c3]
      · rw [hR.out, eW]; rfl
end Go.Proofs.Ytcopoofbicgjbaa
