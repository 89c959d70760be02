/- ops: what is asked first. -/
import Derived.Test.YtmcemcdjfodchaaOps9
set_option maxRecDepth 10000
set_option maxHeartbeats 4000000
set_option linter.unusedSimpArgs false
set_option linter.unusedVariables false
set_option pp.deepTerms.threshold 40
namespace Go.Proofs.Ytmcemcdjfodchaa
open Go.Tm Go.IntWalk
attribute [-instance] Go.Tm.instDecidableIndep
theorem og_put : putL [(11, 0, 0, 0, 0, ⟨#[]⟩, ⟨#[]⟩, ⟨#[]⟩, [], ()), (3, 1, 0, 0, 0, ⟨#[47, 97]⟩, ⟨#[]⟩, ⟨#[]⟩, [], ())] = [11, 0, 3, 1, 2, 47, 97] := by decide +kernel
theorem og_take : stepsD [11, 0, 3, 1, 2, 47, 97] = [(11, 0, 0, 0, 0, ⟨#[]⟩, ⟨#[]⟩, ⟨#[]⟩, [], ()), (3, 1, 0, 0, 0, ⟨#[47, 97]⟩, ⟨#[]⟩, ⟨#[]⟩, [], ())] := by decide +kernel
theorem og_sz : allSz [(11, 0, 0, 0, 0, ⟨#[]⟩, ⟨#[]⟩, ⟨#[]⟩, [], ()), (3, 1, 0, 0, 0, ⟨#[47, 97]⟩, ⟨#[]⟩, ⟨#[]⟩, [], ())] := by decide +kernel
theorem og_B : isB [11, 0, 3, 1, 2, 47, 97] := by decide
theorem og_str : (strOf [11, 0, 3, 1, 2, 47, 97]).toList = [11, 0, 3, 1, 2, 47, 97] := by decide +kernel
/-- The contract of glacislaw25.begun. -/
def obegunC : Con := conN [] fun _ => some ⟨.val ⟨.bool, true⟩, []⟩
theorem obegunC_eq  : obegunC [] = some ⟨.val ⟨.bool, true⟩, []⟩ := conN_mk (ks := []) (())
def Γobegun : Cons := cons [(15, oPutC), (13, ostepsC)]
theorem obegun_ex  : Ex tab Γobegun (Try.f9.body.getD .skip) (EndsF tab Try.f9.results.toList [] ⟨.val ⟨.bool, true⟩, []⟩) (ini []) := by
  have g_oPut : Γobegun 15 = some oPutC := rfl
  have g_osteps : Γobegun 13 = some ostepsC := rfl
  simp only [Try.f9, Option.getD_some]
  simp (implicitDefEqProofs := false) (decide := true) (maxSteps := 4000000) [ini, g_oPut, oPutC_eq, g_osteps, ostepsC_eq, og_put, og_take, og_sz, og_B, og_str]
theorem obegun_ok : ConOK Try.prog 9 obegunC := by
  refine con_ok tab_ok (Γ := Γobegun) (consOK_cons oPut_ok (consOK_cons osteps_ok consOK_nil)) (by kernel_rfl) Try.func9 (by kernel_rfl) ?_
  intro args out h
  obtain ⟨x, e, h1⟩ := conN_inv h
  clear h
  subst e
  replace h1 : (some ⟨.val ⟨.bool, true⟩, []⟩) = some out := h1
  injection h1 with h1
  subst h1
  exact ⟨by rw [mkArgs_len]; decide, obegun_ex⟩
end Go.Proofs.Ytmcemcdjfodchaa
