import Derived.Test.YtkjndogijjnhdaaCrc2
set_option maxRecDepth 10000
set_option linter.unusedSimpArgs false
set_option pp.deepTerms.threshold 6
namespace Go.Proofs.Ytkjndogijjnhdaa
open Go.Tm Go.IntWalk

theorem sum_nine : sum [[49, 50, 51, 52, 53, 54, 55, 56, 57]] = 3808858755 := by kernel_rfl
theorem sum_cut : sum [[49, 50, 51, 52], [53, 54, 55, 56, 57]] = 3808858755 := by kernel_rfl
theorem sum_none : sum [] = 0 := by kernel_rfl

def begunC : Con := fun
  | [] => some ⟨.val ⟨.bool, true⟩, []⟩
  | _ => none

theorem sumC_eq {l : List (List Int)} : sumC [.val ⟨.slice (.slice (.int .u8)), l⟩] = some ⟨.val ⟨.int .u32, sum l⟩, []⟩ := rfl

theorem begun_ex (Γ : Cons) (g9 : Γ 9 = some sumC) (args : List Arg) (out : Out) (h : begunC args = some out) : args.length ≤ 19 ∧ Ex tab Γ (Try.f8.body.getD .skip) (EndsF tab Try.f8.results.toList args out) (ini args) := by
  unfold begunC at h
  split at h
  case h_2 => cases h
  injection h with h
  subst h
  refine ⟨by simp, ?_⟩
  simp only [Try.f8, Option.getD_some]
  simp (implicitDefEqProofs := false) [g9, sumC_eq, ini, -List.reduceReplicate, List.replicate, sum_nine, sum_cut, sum_none]
theorem begun_ok : ConOK Try.prog 8 begunC := con_ok tab_ok (consOK_cons sum_ok consOK_nil) (by kernel_rfl) Try.func8 (by kernel_rfl) (begun_ex _ rfl)
end Go.Proofs.Ytkjndogijjnhdaa
