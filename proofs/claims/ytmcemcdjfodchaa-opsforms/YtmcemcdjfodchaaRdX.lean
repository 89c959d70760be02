/- Readers, by the document: texts. -/
import Derived.Test.YtmcemcdjfodchaaRdQ
import Derived.Test.YtmcemcdjfodchaaBits2t
set_option maxRecDepth 10000
set_option maxHeartbeats 1000000
set_option linter.unusedSimpArgs false
set_option linter.unusedVariables false
set_option pp.deepTerms.threshold 10
namespace Go.Proofs.Ytmcemcdjfodchaa
open Go.Tm Go.IntWalk

/-- The contract of (*glacisref1.Reader).Text. -/
def rtextQC : Con := conN [(.o, .prod (.slice (.int .u8)) (.prod .bool .unit))] fun (r, _) => if isB r.1 then some ⟨.val ⟨.str, (textR r).1⟩, [⟨RdT, (textR r).2⟩]⟩ else none
theorem rtextQC_eq {r : Ty.den (.prod (.slice (.int .u8)) (.prod .bool .unit))} : rtextQC [.obj ⟨.prod (.slice (.int .u8)) (.prod .bool .unit), r⟩] = if isB r.1 then some ⟨.val ⟨.str, (textR r).1⟩, [⟨RdT, (textR r).2⟩]⟩ else none := conN_mk (ks := [(.o, .prod (.slice (.int .u8)) (.prod .bool .unit))]) (r, ())
def ΓrtextQ : Cons := cons [(35, rtakeTextC)]
theorem rtextQ_ex (r : Ty.den (.prod (.slice (.int .u8)) (.prod .bool .unit))) (hr : isB r.1) : Ex tab ΓrtextQ (Try.f25.body.getD .skip) (EndsF tab Try.f25.results.toList [.obj ⟨.prod (.slice (.int .u8)) (.prod .bool .unit), r⟩] ⟨.val ⟨.str, (textR r).1⟩, [⟨RdT, (textR r).2⟩]⟩) (ini [.obj ⟨.prod (.slice (.int .u8)) (.prod .bool .unit), r⟩]) := by
  have g_rtakeText : ΓrtextQ 35 = some rtakeTextC := rfl
  simp only [Try.f25, Option.getD_some]
  simp (implicitDefEqProofs := false) (decide := true) (maxSteps := 4000000) [ini, g_rtakeText, rtakeTextC_eq]
  have g0 := isB_getD hr 0
  refine ⟨by rw [← List.getD_eq_getElem?_getD]; exact g0, br_intro (fun h => ?_) fun h2 => br_intro (fun h => ?_) fun h1 => ?_⟩
  · rw [textR_bad (.inr (not_t h))]; exact ⟨rfl, rfl⟩
  · rw [textR_bad (.inl h)]
    refine ⟨rfl, ?_⟩
    show ((r.1, r.2.1, ()) : Rd) = _
    rw [h]
  · have h2 := not_f h2
    have := takeTextS_true g0 h2
    rw [textR_ok h1 h2, take_rest]
    refine ⟨this, rfl, ?_⟩
    show (_, r.2.1, ()) = _
    rw [h1]
theorem rtextQ_ok : ConOK Try.prog 25 rtextQC := by
  refine con_ok tab_ok (Γ := ΓrtextQ) (consOK_cons rtakeText_ok consOK_nil) (by kernel_rfl) Try.func25 (by kernel_rfl) ?_
  intro args out h
  obtain ⟨x, e, h1⟩ := conN_inv h
  clear h
  obtain ⟨r, x0⟩ := x
  subst e
  replace h1 : (if isB r.1 then some ⟨.val ⟨.str, (textR r).1⟩, [⟨RdT, (textR r).2⟩]⟩ else none) = some out := h1
  split at h1
  case isFalse => cases h1
  rename_i hr
  injection h1 with h1
  subst h1
  exact ⟨by rw [mkArgs_len]; decide, rtextQ_ex r hr⟩
end Go.Proofs.Ytmcemcdjfodchaa
