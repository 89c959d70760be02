/- disk.Write: on the machine. -/
import Derived.Test.YtcopoofbicgjbaaDisk2
set_option maxRecDepth 100000
set_option maxHeartbeats 4000000
set_option linter.unusedSimpArgs false
set_option linter.unusedVariables false
set_option pp.deepTerms.threshold 20
namespace Go.Proofs.Ytcopoofbicgjbaa
open Go.Tm Go.IntWalk Go.RowKit
/-- A disk that is given back, in memory of its own. -/
def DiskV (w0 w : World) (d : Dk) (u : Value) : Prop :=
  ∃ AL cL csL AW cW csW, u = .agg #[.slice AL d.1.length cL, .slice AW d.2.1.length cW, .int .i64 d.2.2.1, .bool d.2.2.2.1] ∧
    FreshP w0 w .str d.1 AL cL csL ∧ FreshP w0 w PutT d.2.1 AW cW csW
theorem FreshP.move {w0 w w' : World} {t : Ty} {xs : List t.den} {A : Option Addr} {c : Nat} {cs : List Value} (h : FreshP w0 w t xs A c cs) (hb : ∀ ad, A = some ad → w'.heap[ad.block]? = w.heap[ad.block]?) : FreshP w0 w' t xs A c cs := by
  obtain ⟨h2, h3, h4, h5, h6, h7⟩ := h
  refine ⟨h2, h3, h4, h5, h6, ?_⟩
  rcases h7 with h7 | ⟨ad, e, hm, hg⟩
  · exact .inl h7
  · exact .inr ⟨ad, e, hm.move (hb ad e), hg⟩
theorem box2_of {w w1 : World} (o z : Obj) (hb : But ((w.alloc o).alloc z) none w1) : w1.heap[w.heap.size + 1]? = some z := by
  have h := (MapKept.heap_alloc (w.alloc o) z).1
  rw [World.size_alloc] at h
  exact but_box h hb
theorem app_put {d : Dk} (i : Int) (x : ByteArray) {w0 wa : World} {A : Option Addr} {c : Nat} {cs : List Value} (h : FreshP w0 wa PutT d.2.1 A c cs) (hd : okD d) :
    ∃ A' c' w', (Builtin.append_ #[26, 26] 26 #[.slice A d.2.1.length c, .slice (some ⟨wa.heap.size, 0, none⟩) 1 1]).run Try.prog (wa.alloc (.cells #[.int .i64 i, .string x] 56)) = .ok (.slice A' (d.2.1.length + 1) c') w' ∧
      d.2.1.length + 1 ≤ c' ∧ c' ≤ maxLen ∧ (∃ ad, A' = some ad ∧ Mem w' ad (c' * 2) (cs ++ [.int .i64 i, .string x])) ∧ But (wa.alloc (.cells #[.int .i64 i, .string x] 56)) A w' ∧ (A' = A ∨ ∃ ad, A' = some ad ∧ ad.block = wa.heap.size + 1) := by
  obtain ⟨h2, h3, h4, h5, h6, h7⟩ := h
  obtain ⟨d1, d2, d3, d4⟩ := hd
  obtain ⟨A', c', w', r, q1, q2, q3, q4, q5⟩ := tm_append (P := Try.prog) tab_ok (t := 26) (t2 := 26) (ty2 := 26) (u := PutT) (bytes := 24) (e := 56) Try.underlying26 (by rfl) (by decide) Try.underlying26 (.inr ⟨_, rfl⟩)
    (w := wa.alloc (.cells #[.int .i64 i, .string x] 56)) (A := A) (n := d.2.1.length) (c := c) (cs := cs) h4 h2 h3
    (by
      rcases h7 with h7 | ⟨ad, e, hm, hg⟩
      · exact .inl h7
      · exact .inr ⟨ad, e, hm.move ((but_alloc _ _ none).block _ hm.block_lt (fun _ h => by cases h))⟩)
    (x := .slice (some ⟨wa.heap.size, 0, none⟩) 1 1) (m := 1) (new := [.int .i64 i, .string x]) rfl
    (fun w1 hw1 => run_firstCells_some _ _ _ _ _ _ _ rfl (fun j v hv => by
      have hcell : w1.heap[wa.heap.size]? = some (.cells #[.int .i64 i, .string x] 56) := by rw [hw1]; exact (MapKept.heap_alloc wa _).1
      have hj : j < 2 := by
        rcases Nat.lt_or_ge j 2 with h | h
        · exact h
        · rw [List.getElem?_eq_none (by simpa using h)] at hv; cases hv
      rcases (show j = 0 ∨ j = 1 by omega) with rfl | rfl
      · simp only [List.getElem?_cons_zero] at hv; cases hv; simp [World.cell?, Addr.add_lit, hcell]
      · simp only [List.getElem?_cons_succ, List.getElem?_cons_zero] at hv; cases hv; simp [World.cell?, Addr.add_lit, hcell]))
    rfl (fun v hv => by simp at hv; rcases hv with rfl | rfl <;> rfl) (by omega) (by show _ ≤ 2^63-1; omega)
  refine ⟨A', c', w', r, q1, q2, ?_, q4, ?_⟩
  · rcases q3 with ⟨_, q3⟩ | q3
    · omega
    · exact q3
  · simpa only [World.size_alloc] using q5
theorem fresh4 {w w0 wa : World} {t : Ty} {xs : List t.den} {A : Option Addr} {c : Nat} {cs : List Value} (h : FreshP w0 wa t xs A c cs) {z : Nat} (hw : w.heap.size ≤ w0.heap.size) (hz : ∀ ad, A = some ad → ad.block ≠ z) (v0 v1 v2 v3 : Value) :
    FreshP w ((((wa.setCell ⟨z, 0, none⟩ v0).setCell ⟨z, 1, none⟩ v1).setCell ⟨z, 2, none⟩ v2).setCell ⟨z, 3, none⟩ v3) t xs A c cs := by
  obtain ⟨h2, h3, h4, h5, h6, h7⟩ := h
  refine ⟨h2, h3, h4, h5, h6, ?_⟩
  rcases h7 with h7 | ⟨ad, e, hm, hg⟩
  · exact .inl h7
  · have hz := hz ad e
    refine .inr ⟨ad, e, hm.move ?_, Nat.le_trans hw hg⟩
    repeat rw [RowKit.Below.heap_setCell _ _ _ _ (show ad.block ≠ z from hz)]
theorem but4 {w wa : World} (h : But w none wa) {z : Nat} (hz : w.heap.size ≤ z) (v0 v1 v2 v3 : Value) :
    But w none ((((wa.setCell ⟨z, 0, none⟩ v0).setCell ⟨z, 1, none⟩ v1).setCell ⟨z, 2, none⟩ v2).setCell ⟨z, 3, none⟩ v3) :=
  butSet (butSet (butSet (butSet h _ _ hz) _ _ hz) _ _ hz) _ _ hz
/-- Behind an append: the row, and what lies beside it. -/
theorem app_more {d : Dk} (i : Int) (x : ByteArray) {w0 wa w3 : World} {A A' : Option Addr} {c c' : Nat} {cs : List Value} (h : FreshP w0 wa PutT d.2.1 A c cs) (h1 : d.2.1.length + 1 ≤ c') (h2 : c' ≤ maxLen) (h3 : ∃ ad, A' = some ad ∧ Mem w3 ad (c' * 2) (cs ++ [.int .i64 i, .string x]))
    (h4 : But (wa.alloc (.cells #[.int .i64 i, .string x] 56)) A w3) (h5 : A' = A ∨ ∃ ad, A' = some ad ∧ ad.block = wa.heap.size + 1) (h0 : w0.heap.size ≤ wa.heap.size) : FreshP w0 w3 PutT (d.2.1 ++ [(i, x, ())]) A' c' (cs ++ [.int .i64 i, .string x]) := by
  have hlt := fun {ad} => @freshp_lt _ _ _ _ _ _ _ h ad
  obtain ⟨g2, g3, g4, g5, g6, g7⟩ := h
  refine ⟨by rw [List.length_append]; exact h1, h2, ?_, ?_, fun w R => (g6 w R).append ?_, .inr ?_⟩
  · rw [List.length_append, List.length_append, Nat.add_mul, g4]; rfl
  · intro v hv
    rcases List.mem_append.1 hv with hv | hv
    · exact g5 v hv
    · simp at hv; rcases hv with rfl | rfl <;> rfl
  · exact ⟨_, [], rfl, ⟨[.int .i64 i], [.string x], rfl, rfl, [.string x], [], rfl, rfl, rfl⟩, rfl⟩
  · obtain ⟨ad, e, hm⟩ := h3
    refine ⟨ad, e, hm, ?_⟩
    rcases h5 with h5 | ⟨ae, h5, h6⟩
    · exact (hlt (h5 ▸ e)).1
    · rw [e] at h5; injection h5 with h5; subst h5; omega
theorem app_beside {w2 w3 : World} {o : Obj} {A : Option Addr} (h : But (w2.alloc o) A w3) {z : Nat} {oz : Obj} (hz : w2.heap[z]? = some oz) (hA : ∀ ad, A = some ad → ad.block ≠ z) : w3.heap[z]? = some oz := by
  have hlt := (Array.getElem?_eq_some_iff.1 hz).1
  exact ((h.block z (by rw [World.size_alloc]; omega) hA).trans ((but_alloc w2 o none).block z hlt (fun _ h => by cases h))).trans hz
theorem box_set1 {w : World} {b : Nat} {a0 a1 a2 a3 : Value} {T : TypeId} (h : w.heap[b]? = some (.cells #[a0, a1, a2, a3] T)) (v : Value) : (w.setCell ⟨b, 1, none⟩ v).heap[b]? = some (.cells #[a0, v, a2, a3] T) := by
  unfold World.setCell
  simp only [Array.getElem?_modify, if_true, h]
  rfl
theorem box_set2 {w : World} {b : Nat} {a0 a1 a2 a3 : Value} {T : TypeId} (h : w.heap[b]? = some (.cells #[a0, a1, a2, a3] T)) (v : Value) : (w.setCell ⟨b, 2, none⟩ v).heap[b]? = some (.cells #[a0, a1, v, a3] T) := by
  unfold World.setCell
  simp only [Array.getElem?_modify, if_true, h]
  rfl
theorem box_set3 {w : World} {b : Nat} {a0 a1 a2 a3 : Value} {T : TypeId} (h : w.heap[b]? = some (.cells #[a0, a1, a2, a3] T)) (v : Value) : (w.setCell ⟨b, 3, none⟩ v).heap[b]? = some (.cells #[a0, a1, a2, v] T) := by
  unfold World.setCell
  simp only [Array.getElem?_modify, if_true, h]
  rfl
theorem box_ne {w : World} {b : Nat} (k : Nat) (v : Value) {z : Nat} {o : Obj} (h : w.heap[z]? = some o) (hn : ¬ z = b) : (w.setCell ⟨b, k, none⟩ v).heap[z]? = some o := (RowKit.Below.heap_setCell _ _ _ _ hn).trans h
theorem FreshP.base {w0 w w' : World} {t : Ty} {xs : List t.den} {A : Option Addr} {c : Nat} {cs : List Value} (h : FreshP w0 w t xs A c cs) (hb : w'.heap.size ≤ w0.heap.size) : FreshP w' w t xs A c cs := by
  obtain ⟨h2, h3, h4, h5, h6, h7⟩ := h
  refine ⟨h2, h3, h4, h5, h6, ?_⟩
  rcases h7 with h7 | ⟨ad, e, hm, hg⟩
  · exact .inl h7
  · exact .inr ⟨ad, e, hm, Nat.le_trans hb hg⟩
theorem but_over {w w1 w2 : World} {A : Option Addr} (h : But w none w1) (k : But w1 A w2) (hb : ∀ ad, A = some ad → w.heap.size ≤ ad.block) : But w none w2 :=
  ⟨k.os.trans h.os, k.tape.trans h.tape, k.output.trans h.output, Nat.le_trans h.size k.size, fun x hx _ =>
    (k.block x (Nat.lt_of_lt_of_le hx h.size) (fun a e => by have := hb a e; omega)).trans (h.block x hx (fun _ e => by cases e))⟩
theorem write_no (d : Dk) (i : Int) (x : ByteArray) (hd : okD d) (hno : ¬ (isK d i = true ∧ x.size = 64)) {w : World} {R : Nat → Prop} {v : Value} (hv : vrep w R DkT d v) :
    Calls Try.prog 17 #[v, .int .i64 i, .string x] w fun e w' => ∃ u, e = .returned (.tuple #[u, .bool false]) ∧ DiskV w w' d u ∧ But w none w' := by
  have mixed : Try.prog.follows .mixedOrders = true := by kernel_rfl
  obtain ⟨A1, k1, A2, k2, rfl, hv1, hv2⟩ := dk_cells hv
  by_cases hk : isK d i = true
  case neg =>
    have hk : isK d i = false := by simpa using hk
    go_enter Try.func17, Try.ntmps17
    go_wp2_with fail
    refine (own_calls d hd (vrep_but hv ((but_alloc _ _ none).trans (but_alloc _ _ none)))).mono ?_
    rintro _ wa ⟨b, rfl, ⟨AL, cL, csL, AW, cW, csW, g1, g2, g3, g4, g5⟩, ba⟩
    have ez := box2_of _ _ ba
    have ezx := box4 ez
    obtain ⟨z0, z1, z2, z3, z4, z5, z6, z7, z8⟩ := ezx
    have ebx := box4 g2
    obtain ⟨x0, x1, x2, x3, y0, y1, y2, y3, x4⟩ := ebx
    go_wp2_with fail
    refine (there_calls d hd i g2).mono ?_
    rintro _ w2 ⟨rfl, rfl⟩
    rw [hk]
    go_wp2_with fail
    refine bodyPost_ret (v := .tuple #[.agg #[.slice AL d.1.length cL, .slice AW d.2.1.length cW, .int .i64 d.2.2.1, .bool d.2.2.2.1], .bool false]) ((results_cell_tmp rfl _ _ _).trans ?_) rfl ?_
    · go_simp
    · have l1 := fun {ad} => @freshp_lt _ _ _ _ _ _ _ g3 ad
      have l2 := fun {ad} => @freshp_lt _ _ _ _ _ _ _ g4 ad
      simp only [World.size_alloc] at l1 l2
      exact ⟨_, rfl, ⟨AL, cL, csL, AW, cW, csW, rfl, fresh4 g3 (by simp only [World.size_alloc]; omega) (fun ad e => by have := l1 e; omega) _ _ _ _, fresh4 g4 (by simp only [World.size_alloc]; omega) (fun ad e => by have := l2 e; omega) _ _ _ _⟩,
        but4 (((but_alloc _ _ none).trans (but_alloc _ _ none)).trans ba) (by omega) _ _ _ _⟩
  case pos =>
  by_cases hx : x.size = 64
  case neg =>
    have hx' : ((x.size : Int) != 64) = true := bne_iff_ne.2 (by omega)
    go_enter Try.func17, Try.ntmps17
    go_wp2_with fail
    refine (own_calls d hd (vrep_but hv ((but_alloc _ _ none).trans (but_alloc _ _ none)))).mono ?_
    rintro _ wa ⟨b, rfl, ⟨AL, cL, csL, AW, cW, csW, g1, g2, g3, g4, g5⟩, ba⟩
    have ez := box2_of _ _ ba
    have ezx := box4 ez
    obtain ⟨z0, z1, z2, z3, z4, z5, z6, z7, z8⟩ := ezx
    have ebx := box4 g2
    obtain ⟨x0, x1, x2, x3, y0, y1, y2, y3, x4⟩ := ebx
    go_wp2_with fail
    refine (there_calls d hd i g2).mono ?_
    rintro _ w2 ⟨rfl, rfl⟩
    rw [hk]
    go_wp2_with fail
    refine bodyPost_ret (v := .tuple #[.agg #[.slice AL d.1.length cL, .slice AW d.2.1.length cW, .int .i64 d.2.2.1, .bool d.2.2.2.1], .bool false]) ((results_cell_tmp rfl _ _ _).trans ?_) rfl ?_
    · go_simp
    · have l1 := fun {ad} => @freshp_lt _ _ _ _ _ _ _ g3 ad
      have l2 := fun {ad} => @freshp_lt _ _ _ _ _ _ _ g4 ad
      simp only [World.size_alloc] at l1 l2
      exact ⟨_, rfl, ⟨AL, cL, csL, AW, cW, csW, rfl, fresh4 g3 (by simp only [World.size_alloc]; omega) (fun ad e => by have := l1 e; omega) _ _ _ _, fresh4 g4 (by simp only [World.size_alloc]; omega) (fun ad e => by have := l2 e; omega) _ _ _ _⟩,
        but4 (((but_alloc _ _ none).trans (but_alloc _ _ none)).trans ba) (by omega) _ _ _ _⟩
  exact absurd ⟨hk, hx⟩ hno
attribute [-go_sem] Go.Builtin.append_
theorem write_yes (d : Dk) (i : Int) (x : ByteArray) (hd : okD d) (hk : isK d i = true) (hx : x.size = 64) {w : World} {R : Nat → Prop} {v : Value} (hv : vrep w R DkT d v) :
    Calls Try.prog 17 #[v, .int .i64 i, .string x] w fun e w' => ∃ u, e = .returned (.tuple #[u, .bool (writeK d i x).2]) ∧ DiskV w w' (writeK d i x).1 u ∧ But w none w' := by
  have mixed : Try.prog.follows .mixedOrders = true := by kernel_rfl
  obtain ⟨A1, k1, A2, k2, rfl, hv1, hv2⟩ := dk_cells hv
  have hx' : ((x.size : Int) != 64) = false := by rw [hx]; rfl
  by_cases ha : 0 < d.2.2.1
  case neg =>
    have e0 : writeK d i x = ((d.1, d.2.1 ++ [(i, x, ())], d.2.2.1, d.2.2.2.1, ()), !d.2.2.2.1) := by rw [writeK, if_pos ⟨hk, hx⟩, armK, if_neg ha]
    rw [e0]
    go_enter Try.func17, Try.ntmps17
    go_wp2_with fail
    refine (own_calls d hd (vrep_but hv ((but_alloc _ _ none).trans (but_alloc _ _ none)))).mono ?_
    rintro _ wa ⟨b, rfl, ⟨AL, cL, csL, AW, cW, csW, g1, g2, g3, g4, g5⟩, ba⟩
    have ez := box2_of _ _ ba
    have ezx := box4 ez
    obtain ⟨z0, z1, z2, z3, z4, z5, z6, z7, z8⟩ := ezx
    have ebx := box4 g2
    obtain ⟨x0, x1, x2, x3, y0, y1, y2, y3, x4⟩ := ebx
    go_wp2_with fail
    refine (there_calls d hd i g2).mono ?_
    rintro _ w2 ⟨rfl, rfl⟩
    rw [hk]
    obtain ⟨A', c', w3, r1, p1, p2, p3, p4, p5⟩ := app_put (d := d) i x g4 hd
    have l1 := fun {ad} => @freshp_lt _ _ _ _ _ _ _ g3 ad
    have l2 := fun {ad} => @freshp_lt _ _ _ _ _ _ _ g4 ad
    simp only [World.size_alloc] at l1 l2
    have g2' := app_beside p4 g2 g5.2.1
    have ez' := app_beside p4 ez (fun ad e => by have := l2 e; omega)
    have ezx' := box4 ez'
    obtain ⟨u0, u1, u2, u3, u4, u5, u6, u7, u8⟩ := ezx'
    have ebx' := box4 g2'
    obtain ⟨v0, v1, v2, v3, v4, v5, v6, v7, v8⟩ := ebx'
    simp only [World.size_alloc] at g1
    have hn1 : ¬ b = w.heap.size + 1 := by omega
    have hn2 : ¬ w.heap.size + 1 = b := by omega
    have k1' : ∀ ad, AL = some ad → ad.block ≠ b ∧ ad.block ≠ w.heap.size + 1 := fun ad e => ⟨g5.1 ad e, by have := l1 e; omega⟩
    have k2' : ∀ ad, A' = some ad → ad.block ≠ b ∧ ad.block ≠ w.heap.size + 1 := fun ad e => by
      rcases p5 with h | ⟨ae, h, h'⟩
      · exact ⟨g5.2.1 ad (h ▸ e), by have := l2 (h ▸ e); omega⟩
      · rw [e] at h; injection h with h; subst h; omega
    have hL : FreshP w w3 .str d.1 AL cL csL := (g3.base (w' := w) (by simp only [World.size_alloc]; omega)).move fun ad e => (p4.block _ (by have := l1 e; simp only [World.size_alloc]; omega) (fun ae h => (g5.2.2 ad ae e h).symm)).trans ((but_alloc _ _ none).block _ (by have := l1 e; omega) (fun _ h => by cases h))
    have hW := (app_more i x g4 p1 p2 p3 p4 p5 ba.size).base (w' := w) (by simp only [World.size_alloc]; omega)
    have hB : But w none w3 := but_over ((((but_alloc _ _ none).trans (but_alloc _ _ none)).trans ba).trans (but_alloc _ _ none)) p4 (fun ad e => by have := l2 e; omega)
    go_wp2_with fail
    have gW := (box_set1 g2' (.slice A' (d.2.1.length + 1) c'))
    have zW := (box_ne 1 (.slice A' (d.2.1.length + 1) c') ez' hn2)
    have sL : FreshP w (w3.setCell ⟨b, 1, none⟩ (.slice A' (d.2.1.length + 1) c')) .str d.1 AL cL csL := hL.move fun ad e => by
      have := (k1' ad e).1
      repeat (refine (RowKit.Below.heap_setCell _ _ _ _ ?_).trans ?_; · exact this)
      rfl
    have sW := hW.move (w' := (w3.setCell ⟨b, 1, none⟩ (.slice A' (d.2.1.length + 1) c'))) fun ad e => by
      have := (k2' ad e).1
      repeat (refine (RowKit.Below.heap_setCell _ _ _ _ ?_).trans ?_; · exact this)
      rfl
    have hbw : w.heap.size ≤ b := by omega
    have sB : But w none (w3.setCell ⟨b, 1, none⟩ (.slice A' (d.2.1.length + 1) c')) := by
      repeat (refine butSet ?_ _ _ ?hx; case hx => exact hbw)
      exact hB
    generalize (w3.setCell ⟨b, 1, none⟩ (.slice A' (d.2.1.length + 1) c')) = W at gW zW sL sW sB ⊢
    have gWx := box4 gW
    obtain ⟨t0, t1, t2, t3, t4, t5, t6, t7, t8⟩ := gWx
    have zWx := box4 zW
    obtain ⟨s0, s1, s2, s3, s4, s5, s6, s7, s8⟩ := zWx
    go_region_law_o fail
    all_goals go_wp2_with fail
    all_goals
      refine bodyPost_ret (v := .tuple #[.agg #[.slice AL d.1.length cL, .slice A' (d.2.1.length + 1) c', .int .i64 (d.2.2.1), .bool (d.2.2.2.1)], .bool (!(d.2.2.2.1))]) ((results_cell_tmp rfl _ _ _).trans ?_) rfl ?_
      · go_simp
        try rfl
      · refine ⟨_, rfl, ⟨AL, cL, csL, A', c', csW ++ [.int .i64 i, .string x], by rw [List.length_append]; rfl, sL.move (fun ad e => ?_), sW.move (fun ad e => ?_)⟩, ?_⟩
        · have := k1' ad e
          rw [show ∀ W : World, W.drew.heap = W.heap from fun _ => rfl]
          repeat (refine (RowKit.Below.heap_setCell _ _ _ _ ?_).trans ?_; · first | exact this.2 | exact this.1)
          rfl
        · have := k2' ad e
          rw [show ∀ W : World, W.drew.heap = W.heap from fun _ => rfl]
          repeat (refine (RowKit.Below.heap_setCell _ _ _ _ ?_).trans ?_; · first | exact this.2 | exact this.1)
          rfl
        · refine But.trans ?_ (but_drew _ _)
          repeat (refine butSet ?_ _ _ ?hx; case hx => exact Nat.le_succ _)
          exact sB
  case pos =>
    have e0 : writeK d i x = ((d.1, d.2.1 ++ [(i, x, ())], d.2.2.1 - 1, decide (d.2.2.1 - 1 = 0), ()), !decide (d.2.2.1 - 1 = 0)) := by rw [writeK, if_pos ⟨hk, hx⟩, armK, if_pos ha]
    rw [e0]
    have hw1 : IntKind.i64.wrap (d.2.2.1 - 1) = d.2.2.1 - 1 := by
      obtain ⟨d1, d2, d3, d4⟩ := hd
      rw [IntKind.wrap_i64]; omega
    go_enter Try.func17, Try.ntmps17
    go_wp2_with fail
    refine (own_calls d hd (vrep_but hv ((but_alloc _ _ none).trans (but_alloc _ _ none)))).mono ?_
    rintro _ wa ⟨b, rfl, ⟨AL, cL, csL, AW, cW, csW, g1, g2, g3, g4, g5⟩, ba⟩
    have ez := box2_of _ _ ba
    have ezx := box4 ez
    obtain ⟨z0, z1, z2, z3, z4, z5, z6, z7, z8⟩ := ezx
    have ebx := box4 g2
    obtain ⟨x0, x1, x2, x3, y0, y1, y2, y3, x4⟩ := ebx
    go_wp2_with fail
    refine (there_calls d hd i g2).mono ?_
    rintro _ w2 ⟨rfl, rfl⟩
    rw [hk]
    obtain ⟨A', c', w3, r1, p1, p2, p3, p4, p5⟩ := app_put (d := d) i x g4 hd
    have l1 := fun {ad} => @freshp_lt _ _ _ _ _ _ _ g3 ad
    have l2 := fun {ad} => @freshp_lt _ _ _ _ _ _ _ g4 ad
    simp only [World.size_alloc] at l1 l2
    have g2' := app_beside p4 g2 g5.2.1
    have ez' := app_beside p4 ez (fun ad e => by have := l2 e; omega)
    have ezx' := box4 ez'
    obtain ⟨u0, u1, u2, u3, u4, u5, u6, u7, u8⟩ := ezx'
    have ebx' := box4 g2'
    obtain ⟨v0, v1, v2, v3, v4, v5, v6, v7, v8⟩ := ebx'
    simp only [World.size_alloc] at g1
    have hn1 : ¬ b = w.heap.size + 1 := by omega
    have hn2 : ¬ w.heap.size + 1 = b := by omega
    have k1' : ∀ ad, AL = some ad → ad.block ≠ b ∧ ad.block ≠ w.heap.size + 1 := fun ad e => ⟨g5.1 ad e, by have := l1 e; omega⟩
    have k2' : ∀ ad, A' = some ad → ad.block ≠ b ∧ ad.block ≠ w.heap.size + 1 := fun ad e => by
      rcases p5 with h | ⟨ae, h, h'⟩
      · exact ⟨g5.2.1 ad (h ▸ e), by have := l2 (h ▸ e); omega⟩
      · rw [e] at h; injection h with h; subst h; omega
    have hL : FreshP w w3 .str d.1 AL cL csL := (g3.base (w' := w) (by simp only [World.size_alloc]; omega)).move fun ad e => (p4.block _ (by have := l1 e; simp only [World.size_alloc]; omega) (fun ae h => (g5.2.2 ad ae e h).symm)).trans ((but_alloc _ _ none).block _ (by have := l1 e; omega) (fun _ h => by cases h))
    have hW := (app_more i x g4 p1 p2 p3 p4 p5 ba.size).base (w' := w) (by simp only [World.size_alloc]; omega)
    have hB : But w none w3 := but_over ((((but_alloc _ _ none).trans (but_alloc _ _ none)).trans ba).trans (but_alloc _ _ none)) p4 (fun ad e => by have := l2 e; omega)
    go_wp2_with fail
    have gW := (box_set3 (box_set2 (box_set1 g2' (.slice A' (d.2.1.length + 1) c')) (.int .i64 (d.2.2.1 - 1))) (.bool (decide (d.2.2.1 - 1 = 0))))
    have zW := (box_ne 3 (.bool (decide (d.2.2.1 - 1 = 0))) (box_ne 2 (.int .i64 (d.2.2.1 - 1)) (box_ne 1 (.slice A' (d.2.1.length + 1) c') ez' hn2) hn2) hn2)
    have sL : FreshP w (((w3.setCell ⟨b, 1, none⟩ (.slice A' (d.2.1.length + 1) c')).setCell ⟨b, 2, none⟩ (.int .i64 (d.2.2.1 - 1))).setCell ⟨b, 3, none⟩ (.bool (decide (d.2.2.1 - 1 = 0)))) .str d.1 AL cL csL := hL.move fun ad e => by
      have := (k1' ad e).1
      repeat (refine (RowKit.Below.heap_setCell _ _ _ _ ?_).trans ?_; · exact this)
      rfl
    have sW := hW.move (w' := (((w3.setCell ⟨b, 1, none⟩ (.slice A' (d.2.1.length + 1) c')).setCell ⟨b, 2, none⟩ (.int .i64 (d.2.2.1 - 1))).setCell ⟨b, 3, none⟩ (.bool (decide (d.2.2.1 - 1 = 0))))) fun ad e => by
      have := (k2' ad e).1
      repeat (refine (RowKit.Below.heap_setCell _ _ _ _ ?_).trans ?_; · exact this)
      rfl
    have hbw : w.heap.size ≤ b := by omega
    have sB : But w none (((w3.setCell ⟨b, 1, none⟩ (.slice A' (d.2.1.length + 1) c')).setCell ⟨b, 2, none⟩ (.int .i64 (d.2.2.1 - 1))).setCell ⟨b, 3, none⟩ (.bool (decide (d.2.2.1 - 1 = 0)))) := by
      repeat (refine butSet ?_ _ _ ?hx; case hx => exact hbw)
      exact hB
    generalize (((w3.setCell ⟨b, 1, none⟩ (.slice A' (d.2.1.length + 1) c')).setCell ⟨b, 2, none⟩ (.int .i64 (d.2.2.1 - 1))).setCell ⟨b, 3, none⟩ (.bool (decide (d.2.2.1 - 1 = 0)))) = W at gW zW sL sW sB ⊢
    have gWx := box4 gW
    obtain ⟨t0, t1, t2, t3, t4, t5, t6, t7, t8⟩ := gWx
    have zWx := box4 zW
    obtain ⟨s0, s1, s2, s3, s4, s5, s6, s7, s8⟩ := zWx
    go_region_law_o fail
    all_goals go_wp2_with fail
    all_goals
      refine bodyPost_ret (v := .tuple #[.agg #[.slice AL d.1.length cL, .slice A' (d.2.1.length + 1) c', .int .i64 (d.2.2.1 - 1), .bool (decide (d.2.2.1 - 1 = 0))], .bool (!(decide (d.2.2.1 - 1 = 0)))]) ((results_cell_tmp rfl _ _ _).trans ?_) rfl ?_
      · go_simp
        try rfl
      · refine ⟨_, rfl, ⟨AL, cL, csL, A', c', csW ++ [.int .i64 i, .string x], by rw [List.length_append]; rfl, sL.move (fun ad e => ?_), sW.move (fun ad e => ?_)⟩, ?_⟩
        · have := k1' ad e
          rw [show ∀ W : World, W.drew.heap = W.heap from fun _ => rfl]
          repeat (refine (RowKit.Below.heap_setCell _ _ _ _ ?_).trans ?_; · first | exact this.2 | exact this.1)
          rfl
        · have := k2' ad e
          rw [show ∀ W : World, W.drew.heap = W.heap from fun _ => rfl]
          repeat (refine (RowKit.Below.heap_setCell _ _ _ _ ?_).trans ?_; · first | exact this.2 | exact this.1)
          rfl
        · refine But.trans ?_ (but_drew _ _)
          repeat (refine butSet ?_ _ _ ?hx; case hx => exact Nat.le_succ _)
          exact sB
theorem write_calls (d : Dk) (i : Int) (x : ByteArray) (hd : okD d) {w : World} {R : Nat → Prop} {v : Value} (hv : vrep w R DkT d v) :
    Calls Try.prog 17 #[v, .int .i64 i, .string x] w fun e w' => ∃ u, e = .returned (.tuple #[u, .bool (writeK d i x).2]) ∧ DiskV w w' (writeK d i x).1 u ∧ But w none w' := by
  by_cases h : isK d i = true ∧ x.size = 64
  · exact write_yes d i x hd h.1 h.2 hv
  · have := write_no d i x hd h hv
    rw [show writeK d i x = (d, false) from if_neg h]
    exact this
end Go.Proofs.Ytcopoofbicgjbaa
