/- frame: what is asked first. -/
import Derived.Test.YtlckajldmooefaaFrameN
set_option maxRecDepth 10000
set_option maxHeartbeats 1000000
set_option linter.unusedSimpArgs false
set_option linter.unusedVariables false
set_option pp.deepTerms.threshold 10
namespace Go.Proofs.Ytlckajldmooefaa
open Go.Tm Go.IntWalk Go.Crc

abbrev c0 : Cmd := (5, 0, 0, 0, 0, 0, ⟨#[47, 97]⟩, no, no, ())
theorem fb_may : mayS c0 = true := by decide +kernel
theorem fb_no : mayS noCmd = false := by decide +kernel
theorem fb_ok : okF 7 c0 = true := by decide +kernel
theorem fb_put : putF 7 c0 = frameS 7 c0 := if_pos fb_ok
theorem fb_len : (frameS 7 c0).length = 28 := (frame_len (may_fine fb_may)).trans rfl
theorem fb_take7 : takeF (frameS 7 c0) 7 = (c0, 28, 0) := by
  have := takeF_put fb_ok (rest := []) isB_nil
  rw [List.append_nil, fb_len] at this
  exact this
theorem fb_take8 : takeF (frameS 7 c0) 8 = (noCmd, 0, 9) := by
  have := takeF_other (seq' := 8) fb_ok (by decide) (rest := []) isB_nil
  rw [List.append_nil] at this
  exact this
theorem fb_nil : takeF [] 7 = (noCmd, 0, 2) := takeF_none (.inl rfl)
theorem same_refl : ∀ {t : Ty}, flat t = true → ∀ x : t.den, same t x x = true
  | .int _, _, x => by simp [same]
  | .bool, _, x => by simp [same]
  | .str, _, x => by simp [same]
  | .unit, _, _ => rfl
  | .prod a b, h, x => by
    simp only [flat, Bool.and_eq_true] at h
    simp only [same, same_refl h.1, same_refl h.2, Bool.and_self]
  | .slice _, h, _ => by cases h
  | .arr _ _, h, _ => by cases h
theorem same_eq : ∀ {t : Ty}, flat t = true → ∀ {x y : t.den}, same t x y = true → x = y
  | .int _, _, x, y, h => by simpa [same] using h
  | .bool, _, x, y, h => by simpa [same] using h
  | .str, _, x, y, h => ba_inj (by simpa [same] using h)
  | .unit, _, _, _, _ => rfl
  | .prod a b, h, x, y, h2 => by
    simp only [flat, Bool.and_eq_true] at h
    simp only [same, Bool.and_eq_true] at h2
    exact Prod.ext (same_eq h.1 h2.1) (same_eq h.2 h2.2)
  | .slice _, h, _, _, _ => by cases h
  | .arr _ _, h, _, _, _ => by cases h
/-- The contract of glacislaw22.begun. -/
def fbegunC : Con := conN [] fun _ => some ⟨.val ⟨.bool, true⟩, []⟩
theorem fbegunC_eq  : fbegunC [] = some ⟨.val ⟨.bool, true⟩, []⟩ := conN_mk (ks := []) (())
def Γfbegun : Cons := cons [(11, fputC), (15, ftakeC), (13, mayC)]
theorem fbegun_ex  : Ex tab Γfbegun (Try.f8.body.getD .skip) (EndsF tab Try.f8.results.toList [] ⟨.val ⟨.bool, true⟩, []⟩) (ini []) := by
  have g_fput : Γfbegun 11 = some fputC := rfl
  have g_ftake : Γfbegun 15 = some ftakeC := rfl
  have g_may : Γfbegun 13 = some mayC := rfl
  simp only [Try.f8, Option.getD_some]
  simp (implicitDefEqProofs := false) (decide := true) (maxSteps := 4000000) [ini, g_fput, fputC_eq, g_ftake, ftakeC_eq, g_may, mayC_eq, fb_may, fb_no, fb_ok, fb_put, fb_len, fb_take7, fb_take8, fb_nil, isB_frameS, isB_nil]
  exact same_refl (by decide) _
theorem fbegun_ok : ConOK Try.prog 8 fbegunC := by
  refine con_ok tab_ok (Γ := Γfbegun) (consOK_cons fput_ok (consOK_cons ftake_ok (consOK_cons may_ok consOK_nil))) (by kernel_rfl) Try.func8 (by kernel_rfl) ?_
  intro args out h
  obtain ⟨x, e, h1⟩ := conN_inv h
  clear h
  subst e
  replace h1 : (some ⟨.val ⟨.bool, true⟩, []⟩) = some out := h1
  injection h1 with h1
  subst h1
  exact ⟨by rw [mkArgs_len]; decide, fbegun_ex⟩
end Go.Proofs.Ytlckajldmooefaa
