/- edit: Link: on the machine. -/
import Derived.Test.YtodkmhamaahjmaaGreatDoorEditV
import Derived.Test.YtodkmhamaahjmaaGreatDoorEditK
import Derived.Test.YtodkmhamaahjmaaGreatDoorG11
set_option maxRecDepth 100000
set_option maxHeartbeats 4000000
set_option linter.unusedSimpArgs false
set_option linter.unusedVariables false
set_option pp.deepTerms.threshold 20
namespace Go.Proofs.YtodkmhamaahjmaaGreatDoor
open Go.Tm Go.IntWalk Go.RowKit
/-- What a change of a tree answers. -/
def ChgR (w : World) (u : List Node) (er : Int) (e : Ending) (w' : World) : Prop :=
  ∃ ad c cs, e = .returned (.tuple #[.slice (some ad) 9 c, .int .i64 er]) ∧ 9 ≤ c ∧ c ≤ maxLen ∧ (∀ w R, repList (rep w R NodeT) u cs) ∧ Mem w' ad (c * 3) cs ∧ w.heap.size ≤ ad.block ∧ But w none w'
theorem chg_after {f : FuncId} {fn : Func} (hf : Tryz.prog.funcs[f]? = some fn) (hname : (fn.name == "runtime.NumGoroutine") = false) (hb : fn.body.isSome = true) {args : List Arg} {vals : List Value} {w : World} {R : Nat → Prop} {u : List Node} {er : Int} (hu : u.length = 9) (ha : ∀ a ∈ args, ∃ d, a = .val d) (hl : args.length = vals.length)
    (h : Calls Tryz.prog f vals.toArray w (ChgR w u er)) : Goes Tryz.prog f vals w (.tup [⟨TreeT, u⟩, ⟨.int .i64, er⟩]) (After w R args vals ⟨.tup [⟨TreeT, u⟩, ⟨.int .i64, er⟩], []⟩) := by
  refine .inl ⟨f, vals.toArray, w, enters hf hname hb _ _, h.mono ?_⟩
  rintro _ w' ⟨ad, c, cs, rfl, k1, k2, k3, k4, k5, k6⟩
  refine ⟨_, rfl, ⟨k6.os, k6.tape, k6.output, k6.size, fun x hx _ => k6.block x hx (fun _ h => by cases h)⟩, (fun x hx => by cases hx), ⟨[_, _], rfl, _, _, rfl, ⟨_, ⟨some ad, c, by rw [hu], by rw [hu]; exact k1, k2, .inr ⟨ad, cs, rfl, ⟨.inr k5, fun h => by cases h⟩, k4.block_lt, k3 _ _, k4.lies⟩⟩, rfl⟩, _, _, rfl, ⟨_, rfl, rfl⟩, rfl⟩, iosN hl ha⟩
theorem chg_fresh {w w1 w' : World} {u : List Node} {er : Int} {v : Value} (hu : u.length = 9) (b : But w none w1) (hk : But w none w') (h : Fresh1 w1 w' NodeT u v) : ChgR w u er (.returned (.tuple #[v, .int .i64 er])) w' := by
  obtain ⟨A, c, cs, rfl, h1, h2, h3, h4, h5, h6⟩ := h
  rcases h6 with ⟨_, h6⟩ | ⟨ad, rfl, hm, hg⟩
  · exfalso; omega
  exact ⟨ad, c, cs, by rw [hu], by omega, h2, h5, hm, Nat.le_trans b.size hg, hk⟩
theorem enter_of {f : FuncId} {fn : Func} (hf : Tryz.prog.funcs[f]? = some fn) (hname : (fn.name == "runtime.NumGoroutine") = false) (hb : fn.body.isSome = true) : ∀ args w, (callFunc f args).run Tryz.prog w = .ok (.enter f args) w := fun args w => by
  have := enters hf hname hb args.toList.toArray w
  rwa [Array.toArray_toList] at this
theorem vrep_low {w : World} {R : Nat → Prop} {t : Ty} {x : t.den} {v : Value} (h : vrep w R t x v) : vrep w (fun b => b < w.heap.size) t x v := vrep_mono (Nat.le_refl _) (fun _ hb _ => hb) (fun _ _ _ => rfl) h
theorem but_kept {w w' : World} {ad : Addr} {C : Nat → Prop} (h : But w (some ad) w') : Kept w (fun x => x = ad.block ∨ C x) w' := ⟨h.os, h.tape, h.output, h.size, fun x hx hn => h.block x hx (fun a e => by injection e with e; subst e; exact fun e => hn (.inl e.symm))⟩
theorem link_works {w1 : World} {t : List Node} {own : Bool} (hf : fitT t) (f p : ByteArray) (hsf : f.size ≤ 1000000000) (hsp : p.size ≤ 1000000000) {p1 p2 : Nat} (hp1 : w1.heap[p1]? = some (.cells #[.string f] 9)) (hp2 : w1.heap[p2]? = some (.cells #[.string p] 9)) (C : Nat → Prop) :
    Works 45 #[.pointer (some ⟨p1, 0, none⟩), .pointer (some ⟨p2, 0, none⟩)] C w1 t own (linkT t f p own) := fun w b ad c hb hw =>
  (link1_calls hw hf f p hsf hsp (but_box hp1 hb) (but_box hp2 hb)).mono fun en w' h => ⟨h.1, h.2.1, but_kept h.2.2⟩
theorem link_len (t : List Node) (f p : ByteArray) (own : Bool) : (linkT t f p own).1.length = t.length := by
  unfold linkT
  repeat' split
  all_goals first | rfl | exact putT_len _ _ _
theorem link_calls (t : List Node) (f p : ByteArray) (own : Bool) (hf : fitT t) (h9 : t.length = 9) (hsf : f.size ≤ 1000000000) (hsp : p.size ≤ 1000000000) {w : World} {R : Nat → Prop} {v : Value} (hv : vrep w R TreeT t v) :
    Calls Tryz.prog 16 #[v, .string f, .string p, .bool own] w (ChgR w (linkT t f p own).1 (linkT t f p own).2) := by
  have hmf : ∀ (fn : Fn) (first cap : Array Value) (w : World), (Instr.makeFunc fn first cap).run Tryz.prog w = .ok (.func fn first cap) w := fun _ _ _ _ => rfl
  have b1 : But w none (w.alloc (.cells #[.string f] 9)) := but_alloc _ _ _
  have b2 : But w none ((w.alloc (.cells #[.string f] 9)).alloc (.cells #[.string p] 9)) := b1.trans (but_alloc _ _ _)
  have e1 : ((w.alloc (.cells #[.string f] 9)).alloc (.cells #[.string p] 9)).heap[w.heap.size]? = some (.cells #[.string f] 9) := but_box (MapKept.heap_alloc w _).1 (but_alloc _ _ none)
  have e2 : ((w.alloc (.cells #[.string f] 9)).alloc (.cells #[.string p] 9)).heap[w.heap.size + 1]? = some (.cells #[.string p] 9) := by
    have := (MapKept.heap_alloc (w.alloc (.cells #[.string f] 9)) (.cells #[.string p] 9)).1
    rwa [size_alloc] at this
  have hl : (linkT t f p own).1.length = 9 := by rw [link_len]; exact h9
  have hv1 := vrep_but (vrep_low hv) b2
  have hw := link_works (own := own) hf f p hsf hsp e1 e2 (fun _ => False)
  have hen := enter_of Tryz.func45 (by kernel_rfl) (by kernel_rfl)
  have hE : ¬ (linkT t f p own).2 = 0 → (linkT t f p own).1 = t := linkT_err
  obtain ⟨G, hG⟩ : ∃ G, linkT t f p own = G := ⟨_, rfl⟩
  rw [hG] at hl hw hE ⊢
  have HW : Hid _ := hw
  have HE : Hid _ := hE
  clear hG hw hE
  by_cases h0 : G.2 = 0
  · have H0 : Hid _ := h0
    clear h0
    go_enter Tryz.func16, Tryz.ntmps16
    go_wp2_with fail
    refine (try_ok hen (C := fun _ => False) (fun _ h => h.elim) h9 (fun _ h => h.elim) hv1 H0.out HW.out).mono ?_
    rintro _ w2 ⟨u, rfl, hfr, hk⟩
    go_wp2_with fail
    go_ret2
    exact chg_fresh hl b2 (b2.trans (kept_but hk (fun _ h => h))) hfr
  · have H0 : Hid _ := h0
    clear h0
    go_enter Tryz.func16, Tryz.ntmps16
    go_wp2_with fail
    refine (try_up hen (C := fun _ => False) (fun _ h => h.elim) h9 (fun _ h => h.elim) hv1 H0.out HW.out).mono ?_
    rintro _ w2 ⟨u, rfl, hfr, hk⟩
    rw [← HE.out H0.out] at hfr
    go_wp2_with fail
    go_ret2
    exact chg_fresh hl b2 (b2.trans (kept_but hk (fun _ h => h))) hfr
end Go.Proofs.YtodkmhamaahjmaaGreatDoor
