import Derived.Test.YtkjndogijjnhdaaCrc3
set_option maxRecDepth 10000
set_option linter.unusedSimpArgs false
namespace Go.Proofs.Ytkjndogijjnhdaa
open Go.Tm Go.IntWalk
theorem begunC_eq : begunC [] = some ⟨.val ⟨.bool, true⟩, []⟩ := rfl
theorem sum_f1 : sum [List.replicate 32 0] = 2324772522 := by kernel_rfl
theorem sum_f2 : sum [[97]] = 3251651376 := by kernel_rfl
theorem sum_f3 : sum [[], []] = 0 := by kernel_rfl
theorem sum_f4 : sum [[97], []] = 3251651376 := by kernel_rfl
theorem rep2 : List.replicate 2 ([] : List Int) = [[], []] := rfl
def Γforms : Cons := cons [(9, sumC), (8, begunC)]
theorem Γforms_ok : ConsOK Try.prog Γforms := consOK_cons sum_ok (consOK_cons begun_ok consOK_nil)
theorem crcForms_ex : LawEx tab Γforms Try.f6 [] := by
  intro l h1 h2
  obtain rfl := types_nil h1
  clear h1 h2
  have g9 : Γforms 9 = some sumC := rfl
  have g8 : Γforms 8 = some begunC := rfl
  simp only [Try.f6, Option.getD_some]
  simp (implicitDefEqProofs := false) [ini, g8, g9, sumC_eq, begunC_eq, -List.reduceReplicate, sum_f1, sum_f2, sum_f3, sum_f4, rep2]
end Go.Proofs.Ytkjndogijjnhdaa
