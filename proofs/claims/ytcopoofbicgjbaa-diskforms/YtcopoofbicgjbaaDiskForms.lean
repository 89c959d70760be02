import Derived.Test.YtcopoofbicgjbaaDiskE
set_option maxRecDepth 100000
set_option maxHeartbeats 4000000
set_option linter.unusedSimpArgs false
set_option linter.unusedVariables false
set_option pp.deepTerms.threshold 30
namespace Go.Proofs.Ytcopoofbicgjbaa
open Go.Tm Go.IntWalk
def ΓdiskForms : Cons := cons [(8, dbegunC), (9, dnewC), (17, dwriteC), (15, dreadC), (13, dcrashC), (11, dflushC), (19, kblockC)]
theorem ΓdiskForms_ok : ConsOK Try.prog ΓdiskForms := (consOK_cons dbegun_ok (consOK_cons dnew_ok (consOK_cons dwrite_ok (consOK_cons dread_ok (consOK_cons dcrash_ok (consOK_cons dflush_ok (consOK_cons kblock_ok consOK_nil)))))))
theorem diskForms_ex : LawEx tab ΓdiskForms Try.f6 [] := by
  intro l h1 h2
  obtain rfl := types_nil h1
  clear h1
  have g_dbegun : ΓdiskForms 8 = some dbegunC := rfl
  have g_dnew : ΓdiskForms 9 = some dnewC := rfl
  have g_dwrite : ΓdiskForms 17 = some dwriteC := rfl
  have g_dread : ΓdiskForms 15 = some dreadC := rfl
  have g_dcrash : ΓdiskForms 13 = some dcrashC := rfl
  have g_dflush : ΓdiskForms 11 = some dflushC := rfl
  have g_kblock : ΓdiskForms 19 = some kblockC := rfl
  clear h2
  simp only [Try.f6, Option.getD_some]
  simp (implicitDefEqProofs := false) (decide := true) (maxSteps := 4000000) [ini, g_dbegun, dbegunC_eq, g_dnew, dnewC_eq, g_dwrite, dwriteC_eq, g_dread, dreadC_eq, g_dcrash, dcrashC_eq, g_dflush, dflushC_eq, g_kblock, kblockC_eq]
  decide +kernel
end Go.Proofs.Ytcopoofbicgjbaa

