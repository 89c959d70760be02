import Derived.Test.YthhjlbpmpffapaaDoorBody7
set_option maxRecDepth 100000
set_option maxHeartbeats 4000000
set_option linter.unusedSimpArgs false
set_option linter.unusedVariables false
set_option pp.deepTerms.threshold 30
namespace Go.Proofs.YthhjlbpmpffapaaDoor
open Go.Tm Go.IntWalk
def ΓbodyForms : Cons := cons [(5, ybegunC), (7, rnewTC), (6, rmakeTC), (9, bwriteC), (11, breadC), (12, bcutC), (15, bstatC), (14, blistC), (13, bmodeC), (10, rsameT6C)]
theorem ΓbodyForms_ok : ConsOK Tryd.prog ΓbodyForms := (consOK_cons ybegun_ok (consOK_cons rnewT_ok (consOK_cons rmakeT_ok (consOK_cons bwrite_ok (consOK_cons bread_ok (consOK_cons bcut_ok (consOK_cons bstat_ok (consOK_cons blist_ok (consOK_cons bmode_ok (consOK_cons rsameT6_ok consOK_nil))))))))))
theorem bodyForms_ex : LawEx tab ΓbodyForms Tryd.f4 [] := by
  intro l h1 h2
  obtain rfl := types_nil h1
  clear h1
  have g_ybegun : ΓbodyForms 5 = some ybegunC := rfl
  have g_rnewT : ΓbodyForms 7 = some rnewTC := rfl
  have g_rmakeT : ΓbodyForms 6 = some rmakeTC := rfl
  have g_bwrite : ΓbodyForms 9 = some bwriteC := rfl
  have g_bread : ΓbodyForms 11 = some breadC := rfl
  have g_bcut : ΓbodyForms 12 = some bcutC := rfl
  have g_bstat : ΓbodyForms 15 = some bstatC := rfl
  have g_blist : ΓbodyForms 14 = some blistC := rfl
  have g_bmode : ΓbodyForms 13 = some bmodeC := rfl
  have g_rsameT6 : ΓbodyForms 10 = some rsameT6C := rfl
  clear h2
  simp only [Tryd.f4, Option.getD_some]
  simp (implicitDefEqProofs := false) (decide := true) (maxSteps := 4000000) [ini, g_ybegun, ybegunC_eq, g_rnewT, rnewTC_eq, g_rmakeT, rmakeTC_eq, g_bwrite, bwriteC_eq, g_bread, breadC_eq, g_bcut, bcutC_eq, g_bstat, bstatC_eq, g_blist, blistC_eq, g_bmode, bmodeC_eq, g_rsameT6, rsameT6C_eq]
end Go.Proofs.YthhjlbpmpffapaaDoor
