/- bits: whether anything is done yet; the law's closed statement. -/
import Derived.Test.YtgkfngfejagbgaaBits2
set_option maxRecDepth 10000
set_option linter.unusedSimpArgs false
set_option linter.unusedVariables false
set_option pp.deepTerms.threshold 12
namespace Go.Proofs.Ytgkfngfejagbgaa
open Go.Tm Go.IntWalk

theorem rep2 {a b : Int} : (List.replicate 2 (0 : Int)).set 0 a = [a, 0] := rfl
/-- The contract of glacislaw3.begun. -/
def begunC : Con := conN [] fun _ => some ⟨.val ⟨.bool, true⟩, []⟩
theorem begunC_eq  : begunC [] = some ⟨.val ⟨.bool, true⟩, []⟩ := conN_mk (ks := []) (())
def Γbegun : Cons := cons [(10, putC), (8, takeC), (14, textC), (12, takeTextC)]
theorem begun_ex  : Ex tab Γbegun (Try.f7.body.getD .skip) (EndsF tab Try.f7.results.toList [] ⟨.val ⟨.bool, true⟩, []⟩) (ini []) := by
  have g_put : Γbegun 10 = some putC := rfl
  have g_take : Γbegun 8 = some takeC := rfl
  have g_text : Γbegun 14 = some textC := rfl
  have g_takeText : Γbegun 12 = some takeTextC := rfl
  simp only [Try.f7, Option.getD_some]
  simp (implicitDefEqProofs := false) (decide := true) [ini, g_put, putC_eq, g_take, takeC_eq, g_text, textC_eq, g_takeText, takeTextC_eq]
  exact ⟨by decide +kernel, by decide +kernel⟩
theorem begun_ok : ConOK Try.prog 7 begunC := by
  refine con_ok tab_ok (Γ := Γbegun) (consOK_cons put_ok (consOK_cons take_ok (consOK_cons text_ok (consOK_cons takeText_ok consOK_nil)))) (by kernel_rfl) Try.func7 (by kernel_rfl) ?_
  intro args out h
  obtain ⟨x, e, h1⟩ := conN_inv h
  clear h
  subst e
  replace h1 : (some ⟨.val ⟨.bool, true⟩, []⟩) = some out := h1
  injection h1 with h1
  subst h1
  exact ⟨by rw [mkArgs_len]; decide, begun_ex⟩
end Go.Proofs.Ytgkfngfejagbgaa
