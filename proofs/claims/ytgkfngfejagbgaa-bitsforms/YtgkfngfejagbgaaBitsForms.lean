import Derived.Test.YtgkfngfejagbgaaBits3
set_option maxRecDepth 10000
set_option linter.unusedSimpArgs false
set_option linter.unusedVariables false
set_option pp.deepTerms.threshold 12
namespace Go.Proofs.Ytgkfngfejagbgaa
open Go.Tm Go.IntWalk
def Γforms : Cons := cons [(10, putC), (8, takeC), (14, textC), (12, takeTextC), (7, begunC)]
theorem Γforms_ok : ConsOK Try.prog Γforms := consOK_cons put_ok (consOK_cons take_ok (consOK_cons text_ok (consOK_cons takeText_ok (consOK_cons begun_ok consOK_nil))))
theorem bitsForms_ex : LawEx tab Γforms Try.f5 [] := by
  intro l h1 h2
  obtain rfl := types_nil h1
  clear h1 h2
  have g1 : Γforms 10 = some putC := rfl
  have g2 : Γforms 8 = some takeC := rfl
  have g3 : Γforms 14 = some textC := rfl
  have g4 : Γforms 12 = some takeTextC := rfl
  have g5 : Γforms 7 = some begunC := rfl
  simp only [Try.f5, Option.getD_some]
  simp (implicitDefEqProofs := false) (decide := true) [ini, g1, g2, g3, g4, g5, putC_eq, takeC_eq, textC_eq, takeTextC_eq, begunC_eq]
  exact ⟨by decide +kernel, by decide +kernel, by decide +kernel, by decide +kernel, by decide +kernel, by decide +kernel⟩
end Go.Proofs.Ytgkfngfejagbgaa
