import Derived.Test.YtmcemcdjfodchaaOps10
set_option maxRecDepth 10000
set_option maxHeartbeats 4000000
set_option linter.unusedSimpArgs false
set_option linter.unusedVariables false
set_option pp.deepTerms.threshold 60
namespace Go.Proofs.Ytmcemcdjfodchaa
open Go.Tm Go.IntWalk
attribute [-instance] Go.Tm.instDecidableIndep
def ΓopsForms : Cons := cons [(9, obegunC), (13, ostepsC), (15, oPutC), (12, rsamesC)]
theorem ΓopsForms_ok : ConsOK Try.prog ΓopsForms := (consOK_cons obegun_ok (consOK_cons osteps_ok (consOK_cons oPut_ok (consOK_cons rsames_ok consOK_nil))))
theorem opsForms_ex : LawEx tab ΓopsForms Try.f6 [] := by
  intro l h1 h2
  obtain rfl := types_nil h1
  clear h1
  have g_obegun : ΓopsForms 9 = some obegunC := rfl
  have g_osteps : ΓopsForms 13 = some ostepsC := rfl
  have g_oPut : ΓopsForms 15 = some oPutC := rfl
  have g_rsames : ΓopsForms 12 = some rsamesC := rfl
  clear h2
  simp only [Try.f6, Option.getD_some]
  simp (implicitDefEqProofs := false) (decide := true) (maxSteps := 4000000) [ini, g_obegun, obegunC_eq, g_osteps, ostepsC_eq, g_oPut, oPutC_eq, g_rsames, rsamesC_eq]
end Go.Proofs.Ytmcemcdjfodchaa
