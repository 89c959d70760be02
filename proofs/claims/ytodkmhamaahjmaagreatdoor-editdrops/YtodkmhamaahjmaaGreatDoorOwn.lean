/- Rows of a call's own: on the machine. -/
import Derived.Test.YtodkmhamaahjmaaGreatDoorDirMem
import Derived.Test.YtodkmhamaahjmaaGreatDoorTmC
import Derived.Test.YtodkmhamaahjmaaGreatDoorTab
import Derived.WalkKit
import Derived.Shelf.RegionOpenPlain
import Derived.Laws.ResultCell
set_option maxRecDepth 100000
set_option maxHeartbeats 4000000
set_option linter.unusedSimpArgs false
set_option linter.unusedVariables false
namespace Go.Proofs.YtodkmhamaahjmaaGreatDoor
open Go.Tm Go.IntWalk Go.RowKit
theorem goes_calls {P : Program} {f : FuncId} {fn : Func} {vals : List Value} {w : World} {r : Res} {R : Value → World → Prop} (hf : P.funcs[f]? = some fn) (hname : (fn.name == "runtime.NumGoroutine") = false) (hb : fn.body.isSome = true) (h : Goes P f vals w r R) :
    Calls P f vals.toArray w fun e w' => ∃ v, e = ends r v ∧ R v w' := by
  have e := enters hf hname hb vals.toArray w
  rcases h with ⟨g, gs, w1, h1, h2⟩ | ⟨_, v, w', h1, _⟩
  · rw [e] at h1
    injection h1 with h1 h3
    injection h1 with h1 h4
    subst h1 h3 h4
    exact h2
  · rw [e] at h1
    injection h1 with h1 _
    cases h1
theorem vrep_but {w w' : World} {R : Nat → Prop} {t : Ty} {x : t.den} {v : Value} (h : vrep w R t x v) (hb : But w none w') : vrep w' R t x v :=
  vrep_mono hb.size (fun _ _ h => h) (fun b hb' _ => hb.block b hb' (fun _ h => by cases h)) h
theorem kept_but {w w' : World} {L : Nat → Prop} (h : Kept w L w') (hn : ∀ b, ¬ L b) : But w none w' := ⟨h.os, h.tape, h.output, h.size, fun x hx _ => h.block x hx (hn x)⟩
/-- A row of the call's own, its parts told. -/
abbrev FreshP (w0 w : World) (t : Ty) (xs : List t.den) (A : Option Addr) (c : Nat) (cs : List Value) : Prop :=
  xs.length ≤ c ∧ c ≤ maxLen ∧ cs.length = xs.length * t.sz ∧ (∀ v ∈ cs, v.oneCell' = true) ∧ (∀ w R, repList (rep w R t) xs cs) ∧ ((A = none ∧ c = 0) ∨ ∃ ad, A = some ad ∧ Mem w ad (c * t.sz) cs ∧ w0.heap.size ≤ ad.block)
/-- A row of the call's own, in memory that was not there before. -/
def Fresh1 (w0 w : World) (t : Ty) (xs : List t.den) (v : Value) : Prop := ∃ A c cs, v = .slice A xs.length c ∧ FreshP w0 w t xs A c cs
theorem Fresh1.move {w0 w w' : World} {t : Ty} {xs : List t.den} {v : Value} (h : Fresh1 w0 w t xs v) (hb : But w none w') : Fresh1 w0 w' t xs v := by
  obtain ⟨A, c, cs, h1, h2, h3, h4, h5, h6, h7⟩ := h
  refine ⟨A, c, cs, h1, h2, h3, h4, h5, h6, ?_⟩
  rcases h7 with h7 | ⟨ad, e, hm, hg⟩
  · exact .inl h7
  · exact .inr ⟨ad, e, hm.move (hb.block _ hm.block_lt (fun _ h => by cases h)), hg⟩
theorem own_fresh {w w' : World} {R : Nat → Prop} {t : Ty} (ht : t.far = false) {xs : List t.den} {args : List Arg} {vals : List Value} {v : Value} (hr : rowBlks args vals = []) (hi : ioBlks args vals = []) (h : After w R args vals ⟨.own t xs, []⟩ v w') : Fresh1 w w' t xs v ∧ But w none w' := by
  obtain ⟨A, c, cs, rfl, g1, g2, g3, g4⟩ := (show OwnS w' _ t xs v from h.res)
  refine ⟨⟨A, c, cs, rfl, g1, g2, g3.length (fun x c hx => rep_len t hx), rep_cells (.arr xs.length t) (x := xs) ⟨rfl, g3⟩, fun w R => g3.imp fun x c _ hx => rep_near t ht hx, ?_⟩, kept_but h.kept (fun b hb => by rw [hi] at hb; cases hb)⟩
  rcases g4 with g4 | ⟨ad, rfl, hm⟩
  · exact .inl g4
  · refine .inr ⟨ad, rfl, hm, ?_⟩
    rcases h.fresh ad.block rfl with h1 | ⟨_, h1⟩
    · exact h1
    · rw [hr] at h1; cases h1
theorem but_box {w w' : World} {b : Nat} {o : Obj} (h : w.heap[b]? = some o) (hb : But w none w') : w'.heap[b]? = some o := (hb.block b (Array.getElem?_eq_some_iff.1 h).1 (fun _ h => by cases h)).trans h
theorem butSet {w w1 : World} (h : But w none w1) (a : Addr) (v : Value) (ha : w.heap.size ≤ a.block) : But w none (w1.setCell a v) :=
  ⟨h.os, h.tape, h.output, by rw [World.size_setCell]; exact h.size, fun x hx _ => (RowKit.Below.heap_setCell _ _ _ _ (by omega)).trans (h.block x hx (fun _ e => by cases e))⟩
theorem butAll {w w1 : World} (h : But w none w1) (o : Obj) : But w none (w1.alloc o) := h.trans (but_alloc _ _ _)
theorem freshp_lt {w0 w : World} {t : Ty} {xs : List t.den} {A : Option Addr} {c : Nat} {cs : List Value} (h : FreshP w0 w t xs A c cs) {ad : Addr} (ha : A = some ad) : w0.heap.size ≤ ad.block ∧ ad.block < w.heap.size := by
  obtain ⟨_, _, _, _, _, h6⟩ := h
  rcases h6 with ⟨h6, _⟩ | ⟨a, h6, h7, h8⟩
  · rw [ha] at h6; cases h6
  · rw [ha] at h6; injection h6 with h6; subst h6; exact ⟨h8, h7.block_lt⟩
theorem FreshP.move {w0 w w' : World} {t : Ty} {xs : List t.den} {A : Option Addr} {c : Nat} {cs : List Value} (h : FreshP w0 w t xs A c cs) (hb : ∀ ad, A = some ad → w'.heap[ad.block]? = w.heap[ad.block]?) : FreshP w0 w' t xs A c cs := by
  obtain ⟨h2, h3, h4, h5, h6, h7⟩ := h
  refine ⟨h2, h3, h4, h5, h6, ?_⟩
  rcases h7 with h7 | ⟨ad, e, hm, hg⟩
  · exact .inl h7
  · exact .inr ⟨ad, e, hm.move (hb ad e), hg⟩
theorem FreshP.base {w0 w w' : World} {t : Ty} {xs : List t.den} {A : Option Addr} {c : Nat} {cs : List Value} (h : FreshP w0 w t xs A c cs) (hb : w'.heap.size ≤ w0.heap.size) : FreshP w' w t xs A c cs := by
  obtain ⟨h2, h3, h4, h5, h6, h7⟩ := h
  refine ⟨h2, h3, h4, h5, h6, ?_⟩
  rcases h7 with h7 | ⟨ad, e, hm, hg⟩
  · exact .inl h7
  · exact .inr ⟨ad, e, hm, Nat.le_trans hb hg⟩
theorem but_over {w w1 w2 : World} {A : Option Addr} (h : But w none w1) (k : But w1 A w2) (hb : ∀ ad, A = some ad → w.heap.size ≤ ad.block) : But w none w2 :=
  ⟨k.os.trans h.os, k.tape.trans h.tape, k.output.trans h.output, Nat.le_trans h.size k.size, fun x hx _ =>
    (k.block x (Nat.lt_of_lt_of_le hx h.size) (fun a e => by have := hb a e; omega)).trans (h.block x hx (fun _ e => by cases e))⟩
theorem box_ne {w : World} {b : Nat} (k : Nat) (v : Value) {z : Nat} {o : Obj} (h : w.heap[z]? = some o) (hn : ¬ z = b) : (w.setCell ⟨b, k, none⟩ v).heap[z]? = some o := (RowKit.Below.heap_setCell _ _ _ _ hn).trans h
theorem mem_set {w : World} {b off n : Nat} {cs : List Value} (h : Mem w ⟨b, off, none⟩ n cs) (o : Nat) (v : Value) (ho : o ≤ cs.length) (hn : o < n) (hv : v.oneCell' = true) : Mem (w.setCell ⟨b, off + o, none⟩ v) ⟨b, off, none⟩ n (ovr cs o [v]) := by
  obtain ⟨w', r, m, _⟩ := h.store (P := Tryz.prog) o v ho hn hv
  obtain ⟨c1, c2⟩ := h.cell o hn
  obtain ⟨old, hold⟩ := Option.isSome_iff_exists.1 c1
  rw [Addr.add_lit, run_store _ _ _ _ _ hv, hold] at r
  simp [c2] at r
  rw [r]; exact m
theorem but_set {w w1 : World} {b o : Nat} {off : Nat} (h : But w (some ⟨b, off, none⟩) w1) (v : Value) : But w (some ⟨b, off, none⟩) (w1.setCell ⟨b, o, none⟩ v) :=
  ⟨h.os, h.tape, h.output, by rw [World.size_setCell]; exact h.size, fun x hx hy => (RowKit.Below.heap_setCell _ _ _ _ (show x ≠ b from fun e => hy _ rfl e.symm)).trans (h.block x hx hy)⟩
theorem loop_less {n k : Nat} (h : k < n) : n - (intOf (.int .i64 ((k : Int) + 1))).toNat < n - (intOf (.int .i64 (k : Int))).toNat := by
  show n - ((k : Int) + 1).toNat < n - ((k : Int)).toNat
  omega
theorem freshp_nil (w0 w : World) (t : Ty) : FreshP w0 w t [] none 0 [] := ⟨Nat.le_refl _, Nat.zero_le _, (Nat.zero_mul _).symm, fun v hv => (by cases hv), fun _ _ => rfl, .inl ⟨rfl, rfl⟩⟩
theorem results_cell1 {fn : Func} {p : Tmp} {ty : TypeId} (h : fn.results = #[.cell p ty]) (tmps : Array Value) (P : Program) (w : World) :
    (results fn tmps).run P w = ((asAddr (tmps.getD p undef)).run P w).andThen fun a w₁ => (loadVar ty a).run P w₁ := by
  simp only [results, h]
  simp [Sem.run_bind, Result.andThen]
theorem freshp_rep {w w' : World} {R' : Nat → Prop} {t : Ty} {xs : List t.den} {A : Option Addr} {c : Nat} {cs : List Value} (hR : ∀ b, w.heap.size ≤ b → R' b) (h : FreshP w w' t xs A c cs) : rep w' R' (.slice t) xs [.slice A xs.length c] := by
  obtain ⟨h2, h3, h4, h5, h6, h7⟩ := h
  refine ⟨A, c, rfl, h2, h3, ?_⟩
  rcases h7 with ⟨rfl, rfl⟩ | ⟨ad, rfl, hm, hg⟩
  · exact .inl (List.eq_nil_of_length_eq_zero (by omega))
  · exact .inr ⟨ad, cs, rfl, hR _ hg, hm.block_lt, h6 _ _, hm.lies⟩
theorem box1 {w : World} {b : Nat} {v : Value} {T : TypeId} (h : w.heap[b]? = some (.cells #[v] T)) : w.cell? ⟨b, 0, none⟩ = some v ∧ w.frozen? ⟨b, 0, none⟩ = false ∧ b < w.heap.size := by
  refine ⟨?_, ?_, (Array.getElem?_eq_some_iff.1 h).1⟩ <;> simp [World.cell?, World.frozen?, h]
theorem box2 {w : World} {b : Nat} {u v : Value} {T : TypeId} (h : w.heap[b]? = some (.cells #[u, v] T)) : w.cell? ⟨b, 0, none⟩ = some u ∧ w.cell? ⟨b, 1, none⟩ = some v ∧ b < w.heap.size := by
  refine ⟨?_, ?_, (Array.getElem?_eq_some_iff.1 h).1⟩ <;> simp [World.cell?, h]
theorem box1_set {w : World} {b : Nat} {u : Value} {T : TypeId} (h : w.heap[b]? = some (.cells #[u] T)) (v : Value) : (w.setCell ⟨b, 0, none⟩ v).heap[b]? = some (.cells #[v] T) := by
  unfold World.setCell
  simp only [Array.getElem?_modify, if_true, h]
  rfl
theorem below_but {w w' : World} (h : RowKit.Below w.heap.size w w') : But w none w' := ⟨h.os, h.tape, h.output, h.size, fun x hx _ => h.block x hx⟩
end Go.Proofs.YtodkmhamaahjmaaGreatDoor
