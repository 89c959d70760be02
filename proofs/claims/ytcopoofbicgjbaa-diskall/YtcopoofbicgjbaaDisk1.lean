/- disk: a disk in memory of its own: on the machine. -/
import Derived.Test.YtcopoofbicgjbaaDiskR
import Derived.Test.YtcopoofbicgjbaaDirMem
import Derived.WalkKit
import Derived.Shelf.RegionOpenPlain
import Derived.Laws.ResultCell
set_option maxRecDepth 100000
set_option maxHeartbeats 4000000
set_option linter.unusedSimpArgs false
set_option linter.unusedVariables false
set_option pp.deepTerms.threshold 20
namespace Go.Proofs.Ytcopoofbicgjbaa
open Go.Tm Go.IntWalk Go.RowKit
/-- The contract of slices.Clone[[]string,string]. -/
def kcloneSC : Con := conN [(.v, .slice .str)] fun (l, _) => if l.length ≤ 1000000 then some ⟨.own .str l, []⟩ else none
theorem kcloneSC_eq {l : List ByteArray} : kcloneSC [.val ⟨.slice .str, l⟩] = if l.length ≤ 1000000 then some ⟨.own .str l, []⟩ else none := conN_mk (ks := [(.v, .slice .str)]) (l, ())
def ΓkcloneS : Cons := cons []
theorem kcloneS_ex (l : List ByteArray) (hr : l.length ≤ 1000000) : Ex tab ΓkcloneS (Try.f37.body.getD .skip) (EndsF tab Try.f37.results.toList [.val ⟨.slice .str, l⟩] ⟨.own .str l, []⟩) (ini [.val ⟨.slice .str, l⟩]) := by
  simp only [Try.f37, Option.getD_some]
  simp (implicitDefEqProofs := false) (decide := true) (maxSteps := 4000000) [ini]
  have hr : List.length l ≤ 1000000 := hr
  omega
theorem kcloneS_ok : ConOK Try.prog 37 kcloneSC := by
  refine con_ok tab_ok (Γ := ΓkcloneS) consOK_nil (by kernel_rfl) Try.func37 (by kernel_rfl) ?_
  intro args out h
  obtain ⟨x, e, h1⟩ := conN_inv h
  clear h
  obtain ⟨l, x0⟩ := x
  subst e
  replace h1 : (if l.length ≤ 1000000 then some ⟨.own .str l, []⟩ else none) = some out := h1
  split at h1
  case isFalse => cases h1
  rename_i hr
  injection h1 with h1
  subst h1
  exact ⟨by rw [mkArgs_len]; decide, kcloneS_ex l hr⟩
/-- The contract of slices.Clone[[]api.Put,api.Put]. -/
def kclonePC : Con := conN [(.v, .slice PutT)] fun (l, _) => if l.length ≤ 1000000 then some ⟨.own PutT l, []⟩ else none
theorem kclonePC_eq {l : List (Ty.den (PutT))} : kclonePC [.val ⟨.slice PutT, l⟩] = if l.length ≤ 1000000 then some ⟨.own PutT l, []⟩ else none := conN_mk (ks := [(.v, .slice PutT)]) (l, ())
def ΓkcloneP : Cons := cons []
theorem kcloneP_ex (l : List (Ty.den (PutT))) (hr : l.length ≤ 1000000) : Ex tab ΓkcloneP (Try.f38.body.getD .skip) (EndsF tab Try.f38.results.toList [.val ⟨.slice PutT, l⟩] ⟨.own PutT l, []⟩) (ini [.val ⟨.slice PutT, l⟩]) := by
  simp only [Try.f38, Option.getD_some]
  simp (implicitDefEqProofs := false) (decide := true) (maxSteps := 4000000) [ini]
  have hr : List.length l ≤ 1000000 := hr
  omega
theorem kcloneP_ok : ConOK Try.prog 38 kclonePC := by
  refine con_ok tab_ok (Γ := ΓkcloneP) consOK_nil (by kernel_rfl) Try.func38 (by kernel_rfl) ?_
  intro args out h
  obtain ⟨x, e, h1⟩ := conN_inv h
  clear h
  obtain ⟨l, x0⟩ := x
  subst e
  replace h1 : (if l.length ≤ 1000000 then some ⟨.own PutT l, []⟩ else none) = some out := h1
  split at h1
  case isFalse => cases h1
  rename_i hr
  injection h1 with h1
  subst h1
  exact ⟨by rw [mkArgs_len]; decide, kcloneP_ex l hr⟩
theorem goes_calls {P : Program} {f : FuncId} {fn : Func} {vals : List Value} {w : World} {r : Res} {R : Value → World → Prop} (hf : P.funcs[f]? = some fn) (hname : (fn.name == "runtime.NumGoroutine") = false) (hb : fn.body.isSome = true) (h : Goes P f vals w r R) :
    Calls P f vals.toArray w fun e w' => ∃ v, e = ends r v ∧ R v w' := by
  have e := enters hf hname hb vals.toArray w
  rcases h with ⟨g, gs, w1, h1, h2⟩ | ⟨_, v, w', h1, _⟩
  · rw [e] at h1
    injection h1 with h1 h3
    injection h1 with h1 h4
    subst h1 h3 h4
    exact h2
  · rw [e] at h1
    injection h1 with h1 _
    cases h1
theorem vrep_but {w w' : World} {R : Nat → Prop} {t : Ty} {x : t.den} {v : Value} (h : vrep w R t x v) (hb : But w none w') : vrep w' R t x v :=
  vrep_mono hb.size (fun _ _ h => h) (fun b hb' _ => hb.block b hb' (fun _ h => by cases h)) h
theorem kept_but {w w' : World} {L : Nat → Prop} (h : Kept w L w') (hn : ∀ b, ¬ L b) : But w none w' := ⟨h.os, h.tape, h.output, h.size, fun x hx _ => h.block x hx (hn x)⟩
/-- A row of the call's own, its parts told. -/
abbrev FreshP (w0 w : World) (t : Ty) (xs : List t.den) (A : Option Addr) (c : Nat) (cs : List Value) : Prop :=
  xs.length ≤ c ∧ c ≤ maxLen ∧ cs.length = xs.length * t.sz ∧ (∀ v ∈ cs, v.oneCell' = true) ∧ (∀ w R, repList (rep w R t) xs cs) ∧ ((A = none ∧ c = 0) ∨ ∃ ad, A = some ad ∧ Mem w ad (c * t.sz) cs ∧ w0.heap.size ≤ ad.block)
/-- A row of the call's own, in memory that was not there before. -/
def Fresh1 (w0 w : World) (t : Ty) (xs : List t.den) (v : Value) : Prop := ∃ A c cs, v = .slice A xs.length c ∧ FreshP w0 w t xs A c cs
theorem Fresh1.move {w0 w w' : World} {t : Ty} {xs : List t.den} {v : Value} (h : Fresh1 w0 w t xs v) (hb : But w none w') : Fresh1 w0 w' t xs v := by
  obtain ⟨A, c, cs, h1, h2, h3, h4, h5, h6, h7⟩ := h
  refine ⟨A, c, cs, h1, h2, h3, h4, h5, h6, ?_⟩
  rcases h7 with h7 | ⟨ad, e, hm, hg⟩
  · exact .inl h7
  · exact .inr ⟨ad, e, hm.move (hb.block _ hm.block_lt (fun _ h => by cases h)), hg⟩
theorem own_fresh {w w' : World} {R : Nat → Prop} {t : Ty} (ht : t.far = false) {xs : List t.den} {args : List Arg} {vals : List Value} {v : Value} (hr : rowBlks args vals = []) (hi : ioBlks args vals = []) (h : After w R args vals ⟨.own t xs, []⟩ v w') : Fresh1 w w' t xs v ∧ But w none w' := by
  obtain ⟨A, c, cs, rfl, g1, g2, g3, g4⟩ := (show OwnS w' _ t xs v from h.res)
  refine ⟨⟨A, c, cs, rfl, g1, g2, g3.length (fun x c hx => rep_len t hx), rep_cells (.arr xs.length t) (x := xs) ⟨rfl, g3⟩, fun w R => g3.imp fun x c _ hx => rep_near t ht hx, ?_⟩, kept_but h.kept (fun b hb => by rw [hi] at hb; cases hb)⟩
  rcases g4 with g4 | ⟨ad, rfl, hm⟩
  · exact .inl g4
  · refine .inr ⟨ad, rfl, hm, ?_⟩
    rcases h.fresh ad.block rfl with h1 | ⟨_, h1⟩
    · exact h1
    · rw [hr] at h1; cases h1
theorem cloneS_calls (xs : List ByteArray) (hl : xs.length ≤ 1000000) {w : World} {R : Nat → Prop} {v : Value} (hv : vrep w R (.slice .str) xs v) :
    Calls Try.prog 37 #[v] w fun e w' => ∃ u, e = .returned u ∧ Fresh1 w w' .str xs u ∧ But w none w' := by
  have hc : kcloneSC [.val ⟨.slice .str, xs⟩] = some ⟨.own .str xs, []⟩ := by rw [kcloneSC_eq, if_pos hl]
  have hrd : Ready w R [.val ⟨.slice .str, xs⟩] [v] := ⟨⟨v, [], rfl, hv, rfl⟩, List.nodup_nil, fun b hb => by cases hb⟩
  refine (goes_calls Try.func37 (by kernel_rfl) (by kernel_rfl) (kcloneS_ok _ _ _ _ _ hc hrd)).mono ?_
  rintro e w' ⟨v', rfl, h⟩
  obtain ⟨h1, h2⟩ := own_fresh (by rfl) rfl rfl h
  exact ⟨v', rfl, h1, h2⟩
theorem cloneP_calls (xs : List Pt) (hl : xs.length ≤ 1000000) {w : World} {R : Nat → Prop} {v : Value} (hv : vrep w R (.slice PutT) xs v) :
    Calls Try.prog 38 #[v] w fun e w' => ∃ u, e = .returned u ∧ Fresh1 w w' PutT xs u ∧ But w none w' := by
  have hc : kclonePC [.val ⟨.slice PutT, xs⟩] = some ⟨.own PutT xs, []⟩ := by rw [kclonePC_eq, if_pos hl]
  have hrd : Ready w R [.val ⟨.slice PutT, xs⟩] [v] := ⟨⟨v, [], rfl, hv, rfl⟩, List.nodup_nil, fun b hb => by cases hb⟩
  refine (goes_calls Try.func38 (by kernel_rfl) (by kernel_rfl) (kcloneP_ok _ _ _ _ _ hc hrd)).mono ?_
  rintro e w' ⟨v', rfl, h⟩
  obtain ⟨h1, h2⟩ := own_fresh (by rfl) rfl rfl h
  exact ⟨v', rfl, h1, h2⟩
theorem box4 {w : World} {b : Nat} {a0 a1 a2 a3 : Value} {T : TypeId} (h : w.heap[b]? = some (.cells #[a0, a1, a2, a3] T)) :
    w.cell? ⟨b, 0, none⟩ = some a0 ∧ w.cell? ⟨b, 1, none⟩ = some a1 ∧ w.cell? ⟨b, 2, none⟩ = some a2 ∧ w.cell? ⟨b, 3, none⟩ = some a3 ∧
    w.frozen? ⟨b, 0, none⟩ = false ∧ w.frozen? ⟨b, 1, none⟩ = false ∧ w.frozen? ⟨b, 2, none⟩ = false ∧ w.frozen? ⟨b, 3, none⟩ = false ∧ b < w.heap.size := by
  refine ⟨?_, ?_, ?_, ?_, ?_, ?_, ?_, ?_, (Array.getElem?_eq_some_iff.1 h).1⟩ <;> simp [World.cell?, World.frozen?, h]
theorem but_box {w w' : World} {b : Nat} {o : Obj} (h : w.heap[b]? = some o) (hb : But w none w') : w'.heap[b]? = some o := (hb.block b (Array.getElem?_eq_some_iff.1 h).1 (fun _ h => by cases h)).trans h
theorem butSet {w w1 : World} (h : But w none w1) (a : Addr) (v : Value) (ha : w.heap.size ≤ a.block) : But w none (w1.setCell a v) :=
  ⟨h.os, h.tape, h.output, by rw [World.size_setCell]; exact h.size, fun x hx _ => (RowKit.Below.heap_setCell _ _ _ _ (by omega)).trans (h.block x hx (fun _ e => by cases e))⟩
theorem butAll {w w1 : World} (h : But w none w1) (o : Obj) : But w none (w1.alloc o) := h.trans (but_alloc _ _ _)
theorem box_end (w : World) (a a' : Addr) (v v' : Value) (o : Obj) : (((w.setCell a v).setCell a' v').alloc o).heap[w.heap.size]? = some o := by
  have := (MapKept.heap_alloc ((w.setCell a v).setCell a' v') o).1
  rwa [World.size_setCell, World.size_setCell] at this
def Apart (AL AW : Option Addr) (b : Nat) : Prop := (∀ ad, AL = some ad → ad.block ≠ b) ∧ (∀ ad, AW = some ad → ad.block ≠ b) ∧ ∀ ad ae, AL = some ad → AW = some ae → ad.block ≠ ae.block
/-- The disk that is worked at: its own block, and two rows of its own. -/
def OwnsD (w0 w : World) (d : Dk) (b : Nat) : Prop :=
  ∃ AL cL csL AW cW csW, w0.heap.size ≤ b ∧ w.heap[b]? = some (.cells #[.slice AL d.1.length cL, .slice AW d.2.1.length cW, .int .i64 d.2.2.1, .bool d.2.2.2.1] 54) ∧
    FreshP w0 w .str d.1 AL cL csL ∧ FreshP w0 w PutT d.2.1 AW cW csW ∧ Apart AL AW b
theorem freshp_lt {w0 w : World} {t : Ty} {xs : List t.den} {A : Option Addr} {c : Nat} {cs : List Value} (h : FreshP w0 w t xs A c cs) {ad : Addr} (ha : A = some ad) : w0.heap.size ≤ ad.block ∧ ad.block < w.heap.size := by
  obtain ⟨_, _, _, _, _, h6⟩ := h
  rcases h6 with ⟨h6, _⟩ | ⟨a, h6, h7, h8⟩
  · rw [ha] at h6; cases h6
  · rw [ha] at h6; injection h6 with h6; subst h6; exact ⟨h8, h7.block_lt⟩
theorem fresh_endP {w w0 wa wX : World} {t : Ty} {xs : List t.den} {A : Option Addr} {c : Nat} {cs : List Value}
    (ha : FreshP w0 wa t xs A c cs)
    (h0 : w.heap.size < w0.heap.size) (hX : But wa none wX) (v v' : Value) (o : Obj) :
    FreshP w (((wX.setCell ⟨w.heap.size, 0, none⟩ v).setCell ⟨w.heap.size, 1, none⟩ v').alloc o) t xs A c cs := by
  obtain ⟨h2, h3, h4, h5, h6, h7⟩ := ha
  refine ⟨h2, h3, h4, h5, h6, ?_⟩
  rcases h7 with h7 | ⟨ad, e, hm, hg⟩
  · exact .inl h7
  · have hlt := Nat.lt_of_lt_of_le hm.block_lt hX.size
    refine .inr ⟨ad, e, hm.move ?_, by omega⟩
    rw [(but_alloc _ _ none).block _ (by simp only [World.size_setCell]; exact hlt) (fun _ h => by cases h)]
    rw [RowKit.Below.heap_setCell _ _ _ _ (show ad.block ≠ w.heap.size by omega), RowKit.Below.heap_setCell _ _ _ _ (show ad.block ≠ w.heap.size by omega)]
    exact hX.block _ hm.block_lt (fun _ h => by cases h)
theorem dk_cells {w : World} {R : Nat → Prop} {v : Value} {d : Dk} (hv : vrep w R DkT d v) :
    ∃ A1 k1 A2 k2, v = .agg #[.slice A1 d.1.length k1, .slice A2 d.2.1.length k2, .int .i64 d.2.2.1, .bool d.2.2.2.1] ∧ vrep w R (.slice .str) d.1 (.slice A1 d.1.length k1) ∧ vrep w R (.slice PutT) d.2.1 (.slice A2 d.2.1.length k2) := by
  obtain ⟨last, wait, arm, down, ⟨⟩⟩ := d
  obtain ⟨csv, ⟨c1, c2, rfl, r1, c3, c4, rfl, r3, c5, c6, rfl, r5, c7, c8, rfl, r7, r8⟩, rfl⟩ := hv
  obtain ⟨A1, k1, e1, _⟩ := id r1
  obtain ⟨A2, k2, e3, _⟩ := id r3
  have r5 : c5 = [.int .i64 arm] := r5
  have r7 : c7 = [.bool down] := r7
  have r8 : c8 = [] := r8
  subst r5 r7 r8
  obtain rfl : c1 = [.slice A1 last.length k1] := e1
  obtain rfl : c3 = [.slice A2 wait.length k2] := e3
  exact ⟨A1, k1, A2, k2, rfl, ⟨_, r1, rfl⟩, ⟨_, r3, rfl⟩⟩
theorem own_calls (d : Dk) (hd : okD d) {w : World} {R : Nat → Prop} {v : Value} (hv : vrep w R DkT d v) :
    Calls Try.prog 24 #[v] w fun e w' => ∃ b, e = .returned (.pointer (some ⟨b, 0, none⟩)) ∧ OwnsD w w' d b ∧ But w none w' := by
  have mixed : Try.prog.follows .mixedOrders = true := by kernel_rfl
  obtain ⟨last, wait, arm, down, ⟨⟩⟩ := d
  obtain ⟨d1, d2, d3, d4⟩ := hd
  simp only at d1 d2 d3 d4 ⊢
  obtain ⟨csv, ⟨c1, c2, rfl, r1, c3, c4, rfl, r3, c5, c6, rfl, r5, c7, c8, rfl, r7, r8⟩, rfl⟩ := hv
  obtain ⟨A1, k1, e1, _⟩ := id r1
  obtain ⟨A2, k2, e3, _⟩ := id r3
  have r5 : c5 = [.int .i64 arm] := r5
  have r7 : c7 = [.bool down] := r7
  have r8 : c8 = [] := r8
  obtain ⟨v1, rfl⟩ : ∃ v1, c1 = [v1] := ⟨_, e1⟩
  obtain ⟨v2, rfl⟩ : ∃ v2, c3 = [v2] := ⟨_, e3⟩
  subst r5 r7 r8
  have hv1 : vrep w R (.slice .str) last v1 := ⟨[v1], r1, rfl⟩
  have hv2 : vrep w R (.slice PutT) wait v2 := ⟨[v2], r3, rfl⟩
  show Calls Try.prog 24 #[.agg #[v1, v2, .int .i64 arm, .bool down]] w _
  clear e1 e3 r1 r3
  have bw0 : But w none (w.alloc (.cells #[v1, v2, .int .i64 arm, .bool down] 28)).drew := (but_alloc _ _ _).trans (but_drew _ _)
  have eb0 : (w.alloc (.cells #[v1, v2, .int .i64 arm, .bool down] 28)).drew.heap[w.heap.size]? = some (.cells #[v1, v2, .int .i64 arm, .bool down] 28) := (MapKept.heap_alloc w _).1
  go_enter Try.func24, Try.ntmps24
  go_wp2_with fail
  go_region_with (first | (go_at_call 37; refine (cloneS_calls last (by omega) (vrep_but hv1 (by first | exact bw0 | exact bw0.trans (by assumption)))).mono ?_; rintro _ wa ⟨ua, rfl, ⟨Aa, ca, csa, rfl, ha⟩, ba⟩; have ebx := box4 (but_box eb0 (show But _ none wa by first | exact ba | exact But.trans (by assumption) ba)); obtain ⟨x0, x1, x2, x3, y0, y1, y2, y3, x4⟩ := ebx) | (go_at_call 38; refine (cloneP_calls wait (by omega) (vrep_but hv2 (by first | exact bw0 | exact bw0.trans (by assumption)))).mono ?_; rintro _ wb ⟨ub, rfl, ⟨Ab, cb, csb, rfl, hb⟩, bb⟩; have ebx := box4 (but_box eb0 (show But _ none wb by first | exact bb | exact But.trans (by assumption) bb)); obtain ⟨x0, x1, x2, x3, y0, y1, y2, y3, x4⟩ := ebx))
  all_goals
    go_wp2_with fail
    go_ret
    have hs0 : w.heap.size < (w.alloc (.cells #[v1, v2, .int .i64 arm, .bool down] 28)).drew.heap.size := (Array.getElem?_eq_some_iff.1 eb0).1
    have sa := ba.size
    have sb := bb.size
    have la := fun {ad} => @freshp_lt _ _ _ _ _ _ _ ha ad
    have lb := fun {ad} => @freshp_lt _ _ _ _ _ _ _ hb ad
    refine ⟨_, rfl, ⟨Aa, ca, csa, Ab, cb, csb, ?_, box_end _ _ _ _ _ _, fresh_endP ha (by omega) (by first | exact But.refl _ _ | assumption) _ _ _, fresh_endP hb (by omega) (by first | exact But.refl _ _ | assumption) _ _ _, fun ad e => ?_, fun ad e => ?_, fun ad ae e e' => ?_⟩, ?_⟩
    · omega
    · have := la e; omega
    · have := lb e; omega
    · have := la e; have := lb e'; omega
    · refine butAll (butSet (butSet (by first | exact (bw0.trans ba).trans bb | exact (bw0.trans bb).trans ba) _ _ (Nat.le_refl _)) _ _ (Nat.le_refl _)) _
end Go.Proofs.Ytcopoofbicgjbaa
