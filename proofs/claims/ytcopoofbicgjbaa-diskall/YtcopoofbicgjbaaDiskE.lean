/- disk: has it begun? -/
import Derived.Test.YtcopoofbicgjbaaDiskC
set_option maxRecDepth 100000
set_option maxHeartbeats 2000000
set_option linter.unusedSimpArgs false
set_option linter.unusedVariables false
set_option pp.deepTerms.threshold 20
namespace Go.Proofs.Ytcopoofbicgjbaa
open Go.Tm Go.IntWalk
/-- The contract of glacislaw1.begun. -/
def dbegunC : Con := conN [] fun _ => some ⟨.val ⟨.bool, true⟩, []⟩
theorem dbegunC_eq  : dbegunC [] = some ⟨.val ⟨.bool, true⟩, []⟩ := conN_mk (ks := []) (())
def Γdbegun : Cons := cons [(9, dnewC), (17, dwriteC), (15, dreadC), (13, dcrashC), (11, dflushC), (19, kblockC)]
theorem dbegun_ex  : Ex tab Γdbegun (Try.f8.body.getD .skip) (EndsF tab Try.f8.results.toList [] ⟨.val ⟨.bool, true⟩, []⟩) (ini []) := by
  have g_dnew : Γdbegun 9 = some dnewC := rfl
  have g_dwrite : Γdbegun 17 = some dwriteC := rfl
  have g_dread : Γdbegun 15 = some dreadC := rfl
  have g_dcrash : Γdbegun 13 = some dcrashC := rfl
  have g_dflush : Γdbegun 11 = some dflushC := rfl
  have g_kblock : Γdbegun 19 = some kblockC := rfl
  simp only [Try.f8, Option.getD_some]
  simp (implicitDefEqProofs := false) (decide := true) (maxSteps := 4000000) [ini, g_dnew, dnewC_eq, g_dwrite, dwriteC_eq, g_dread, dreadC_eq, g_dcrash, dcrashC_eq, g_dflush, dflushC_eq, g_kblock, kblockC_eq]
  decide +kernel
theorem dbegun_ok : ConOK Try.prog 8 dbegunC := by
  refine con_ok tab_ok (Γ := Γdbegun) (consOK_cons dnew_ok (consOK_cons dwrite_ok (consOK_cons dread_ok (consOK_cons dcrash_ok (consOK_cons dflush_ok (consOK_cons kblock_ok consOK_nil)))))) (by kernel_rfl) Try.func8 (by kernel_rfl) ?_
  intro args out h
  obtain ⟨x, e, h1⟩ := conN_inv h
  clear h
  subst e
  replace h1 : (some ⟨.val ⟨.bool, true⟩, []⟩) = some out := h1
  injection h1 with h1
  subst h1
  exact ⟨by rw [mkArgs_len]; decide, dbegun_ex⟩
end Go.Proofs.Ytcopoofbicgjbaa
