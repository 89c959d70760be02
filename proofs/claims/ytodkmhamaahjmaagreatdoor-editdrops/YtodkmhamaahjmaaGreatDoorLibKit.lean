/- From what the shelf says of a call to what a contract here says. -/
import Derived.Test.YtodkmhamaahjmaaGreatDoorTmC
set_option linter.unusedSimpArgs false
set_option linter.unusedVariables false
namespace Go.Tm
theorem iosN {w : World} {R : Nat → Prop} : ∀ {args : List Arg} {vals : List Value}, args.length = vals.length → (∀ a ∈ args, ∃ d, a = .val d) → iosRep w R args vals []
  | [], _, _, _ => rfl
  | a :: as, [], hl, _ => by simp at hl
  | a :: as, v :: vs, hl, h => by
    obtain ⟨d, rfl⟩ := h a (by simp)
    exact ⟨v, vs, rfl, iosN (by simpa using hl) (fun b hb => h b (by simp [hb]))⟩
theorem blksN : ∀ {args : List Arg} {vals : List Value}, (∀ a ∈ args, ∃ d, a = .val d) → ioBlks args vals = []
  | [], _, _ => by simp [ioBlks]
  | a :: as, [], _ => by simp [ioBlks]
  | a :: as, v :: vs, h => by
    obtain ⟨d, rfl⟩ := h a (by simp)
    simp [ioBlks, ioBlk, blksN (args := as) (vals := vs) (fun b hb => h b (by simp [hb]))]
/-- A call of values that leaves what was there as it was, and whose answer leads nowhere. -/
theorem goes_near {P : Program} {f : FuncId} {fn : Func} {args : List Arg} {vals : List Value} {w : World} {R : Nat → Prop} {t : Ty} {x : t.den} {v : Value} (hf : P.funcs[f]? = some fn) (hname : (fn.name == "runtime.NumGoroutine") = false) (hb : fn.body.isSome = true)
    (ha : ∀ a ∈ args, ∃ d, a = .val d) (hl : args.length = vals.length) (hv : ∀ w R, vrep w R t x v) (h : Calls P f vals.toArray w fun e w' => e = .returned v ∧ RowKit.Below w.heap.size w w') :
    Goes P f vals w (Res.val ⟨t, x⟩) (After w R args vals ⟨.val ⟨t, x⟩, []⟩) := by
  refine .inl ⟨f, vals.toArray, w, enters hf hname hb _ _, h.mono ?_⟩
  rintro e w' ⟨rfl, hw⟩
  refine ⟨v, rfl, ⟨hw.os, hw.tape, hw.output, hw.size, fun b hb _ => hw.block b hb⟩, fun b hb => (by cases hb), hv _ _, iosN hl ha⟩
/-- The same of two answers. -/
theorem goes_near2 {P : Program} {f : FuncId} {fn : Func} {args : List Arg} {vals : List Value} {w : World} {R : Nat → Prop} {t u : Ty} {x : t.den} {y : u.den} {v z : Value} (hf : P.funcs[f]? = some fn) (hname : (fn.name == "runtime.NumGoroutine") = false) (hb : fn.body.isSome = true)
    (ha : ∀ a ∈ args, ∃ d, a = .val d) (hl : args.length = vals.length) (hv : ∀ w R, vrep w R t x v) (hz : ∀ w R, vrep w R u y z) (h : Calls P f vals.toArray w fun e w' => e = .returned (.tuple #[v, z]) ∧ RowKit.Below w.heap.size w w') :
    Goes P f vals w (Res.tup [⟨t, x⟩, ⟨u, y⟩]) (After w R args vals ⟨.tup [⟨t, x⟩, ⟨u, y⟩], []⟩) := by
  refine .inl ⟨f, vals.toArray, w, enters hf hname hb _ _, h.mono ?_⟩
  rintro e w' ⟨rfl, hw⟩
  refine ⟨_, rfl, ⟨hw.os, hw.tape, hw.output, hw.size, fun b hb _ => hw.block b hb⟩, fun b hb => (by cases hb), ?_, iosN hl ha⟩
  exact ⟨[v, z], rfl, v, [z], rfl, hv _ _, z, [], rfl, hz _ _, rfl⟩
end Go.Tm
