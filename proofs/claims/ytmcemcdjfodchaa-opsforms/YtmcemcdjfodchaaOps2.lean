/- ops: a step is read. -/
import Derived.Test.YtmcemcdjfodchaaOps1
set_option maxRecDepth 10000
set_option maxHeartbeats 2000000
set_option linter.unusedSimpArgs false
set_option linter.unusedVariables false
set_option pp.deepTerms.threshold 12
namespace Go.Proofs.Ytmcemcdjfodchaa
open Go.Tm Go.IntWalk
def stepR (k : Int) (r : Rd) : Step × Rd :=
  let v := numS r 1
  let p := if k ≤ 10 then textR v.2 else (no, v.2)
  let w := v.1.tmod 2
  if k = 1 ∨ k = 7 then let m := numS p.2 1; ((k, w, 0, m.1, 0, p.1, no, no, [], ()), m.2)
  else if k = 2 ∨ k = 4 then let t := textR p.2; ((k, w, 0, 0, 0, p.1, t.1, no, [], ()), t.2)
  else if k = 5 then let o := numS p.2 2; let t := textR o.2; ((k, w, 0, 0, o.1, p.1, no, t.1, [], ()), t.2)
  else if k = 6 ∨ k = 17 then let o := numS p.2 2; ((k, w, 0, 0, o.1, p.1, no, no, [], ()), o.2)
  else if k = 8 ∨ k = 9 ∨ k = 10 ∨ k = 13 ∨ k = 14 then let i := numS p.2 1; ((k, w, i.1, 0, 0, p.1, no, no, [], ()), i.2)
  else if k = 16 then let i := numS p.2 1; let o := numS i.2 1; ((k, w, i.1, 0, o.1, p.1, no, no, [], ()), o.2)
  else if k = 19 then let o := numS p.2 1; ((k, w, 0, 0, o.1, p.1, no, no, [], ()), o.2)
  else if k = 20 then let l := keepR p.2; ((k, w, 0, 0, 0, p.1, no, no, l.1, ()), l.2)
  else ((k, w, 0, 0, 0, p.1, no, no, [], ()), p.2)
theorem numS_off {b : List Int} {n : Int} : numS (b, true, ()) n = (0, (b, true, ())) := numS_bad (.inl rfl)
theorem textR_off {b : List Int} : textR (b, true, ()) = (no, (b, true, ())) := textR_bad (.inl rfl)
theorem keepR_off {b : List Int} : keepR (b, true, ()) = ([], (b, true, ())) := by
  rw [keepR, numS_off]
  rfl
theorem rdO_1 {b : List Int} : (rdO b).1 = b := rfl
theorem rdO_2 {b : List Int} : (rdO b).2.1 = false := rfl
theorem isB_tail {b : List Int} (h : isB b) : isB b.tail := List.drop_one (l := b) ▸ isB_drop h 1
/-- The contract of (*ops.reader).step. -/
def ostepC : Con := conN [(.o, .prod (.slice (.int .u8)) .unit), (.v, .int .i64)] fun (r, k, _) => if isB r.1 ∧ 1 ≤ k ∧ k ≤ 20 then orP (!(stepR k (rdO r.1)).2.2.1) ⟨.val ⟨StepT, (stepR k (rdO r.1)).1⟩, [⟨OrT, ((stepR k (rdO r.1)).2.1, ())⟩]⟩ ⟨.panic [shortE], [⟨OrT, ((stepR k (rdO r.1)).2.1, ())⟩]⟩ else none
theorem ostepC_eq {r : Ty.den (.prod (.slice (.int .u8)) .unit)} {k : Int} : ostepC [.obj ⟨.prod (.slice (.int .u8)) .unit, r⟩, .val ⟨.int .i64, k⟩] = if isB r.1 ∧ 1 ≤ k ∧ k ≤ 20 then orP (!(stepR k (rdO r.1)).2.2.1) ⟨.val ⟨StepT, (stepR k (rdO r.1)).1⟩, [⟨OrT, ((stepR k (rdO r.1)).2.1, ())⟩]⟩ ⟨.panic [shortE], [⟨OrT, ((stepR k (rdO r.1)).2.1, ())⟩]⟩ else none := conN_mk (ks := [(.o, .prod (.slice (.int .u8)) .unit), (.v, .int .i64)]) (r, k, ())
def Γostep : Cons := cons [(22, onumC), (32, otextC), (33, okeepC)]
theorem ostep_ex (r : Ty.den (.prod (.slice (.int .u8)) .unit)) (k : Int) (hr : isB r.1 ∧ 1 ≤ k ∧ k ≤ 20) : Ex tab Γostep (Try.f23.body.getD .skip) (EndsF tab Try.f23.results.toList [.obj ⟨.prod (.slice (.int .u8)) .unit, r⟩, .val ⟨.int .i64, k⟩] (if (!(stepR k (rdO r.1)).2.2.1) = true then (⟨.val ⟨StepT, (stepR k (rdO r.1)).1⟩, [⟨OrT, ((stepR k (rdO r.1)).2.1, ())⟩]⟩ : Out) else ⟨.panic [shortE], [⟨OrT, ((stepR k (rdO r.1)).2.1, ())⟩]⟩)) (ini [.obj ⟨.prod (.slice (.int .u8)) .unit, r⟩, .val ⟨.int .i64, k⟩]) := by
  have g_onum : Γostep 22 = some onumC := rfl
  have g_otext : Γostep 32 = some otextC := rfl
  have g_okeep : Γostep 33 = some okeepC := rfl

  obtain ⟨hb, h1, h2⟩ := hr
  have hk : k = 1 ∨ k = 2 ∨ k = 3 ∨ k = 4 ∨ k = 5 ∨ k = 6 ∨ k = 7 ∨ k = 8 ∨ k = 9 ∨ k = 10 ∨ k = 11 ∨ k = 12 ∨ k = 13 ∨ k = 14 ∨ k = 15 ∨ k = 16 ∨ k = 17 ∨ k = 18 ∨ k = 19 ∨ k = 20 := by omega
  clear h1 h2
  obtain ⟨Z, hZ⟩ : ∃ Z, stepR k (rdO r.1) = Z := ⟨_, rfl⟩
  rw [hZ]
  rcases hk with rfl | rfl | rfl | rfl | rfl | rfl | rfl | rfl | rfl | rfl | rfl | rfl | rfl | rfl | rfl | rfl | rfl | rfl | rfl | rfl
  all_goals
    simp only [Try.f23, Option.getD_some]
    simp (implicitDefEqProofs := false) (decide := true) (maxSteps := 4000000) [ini, g_onum, onumC_eq, g_otext, otextC_eq, g_okeep, okeepC_eq]
    repeat' first
      | intro m0
      | refine br_intro (fun h => ?_) fun h => ?_
      | refine ⟨isB_tail hb, ?_⟩
      | refine ⟨isB_drop hb _, ?_⟩
      | fail
    all_goals
      subst hZ
      try replace h := not_t h
      try replace h := not_f h
      simp [stepR, num_rd, num_no, text_rd, text_no, numS_off, textR_off, keepR_off, rdO_1, rdO_2, shortE, *]
      try rfl
theorem ostep_ok : ConOK Try.prog 23 ostepC := by
  refine con_ok tab_ok (Γ := Γostep) (consOK_cons onum_ok (consOK_cons otext_ok (consOK_cons okeep_ok consOK_nil))) (by kernel_rfl) Try.func23 (by kernel_rfl) ?_
  intro args out h
  obtain ⟨x, e, h1⟩ := conN_inv h
  clear h
  obtain ⟨r, k, x0⟩ := x
  subst e
  replace h1 : (if isB r.1 ∧ 1 ≤ k ∧ k ≤ 20 then orP (!(stepR k (rdO r.1)).2.2.1) ⟨.val ⟨StepT, (stepR k (rdO r.1)).1⟩, [⟨OrT, ((stepR k (rdO r.1)).2.1, ())⟩]⟩ ⟨.panic [shortE], [⟨OrT, ((stepR k (rdO r.1)).2.1, ())⟩]⟩ else none) = some out := h1
  split at h1
  case isFalse => cases h1
  rename_i hr
  injection h1 with h1
  subst h1
  exact ⟨by rw [mkArgs_len]; decide, ostep_ex r k hr⟩
end Go.Proofs.Ytmcemcdjfodchaa
