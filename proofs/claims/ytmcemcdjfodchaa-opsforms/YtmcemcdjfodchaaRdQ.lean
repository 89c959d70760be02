/- Readers, by the document: numbers. -/
import Derived.Test.YtmcemcdjfodchaaPNumR
import Derived.Test.YtmcemcdjfodchaaPCom
set_option maxRecDepth 10000
set_option maxHeartbeats 1000000
set_option linter.unusedSimpArgs false
set_option linter.unusedVariables false
set_option pp.deepTerms.threshold 10
namespace Go.Proofs.Ytmcemcdjfodchaa
open Go.Tm Go.IntWalk

abbrev RdT : Ty := .prod (.slice (.int .u8)) (.prod .bool .unit)
abbrev Rd : Type := List Int × Bool × Unit
def numS (r : Rd) (n : Int) : Int × Rd :=
  if (r.2.1 || !(takeS r.1 n).2) = true then (0, (r.1, true, ())) else ((takeS r.1 n).1, (r.1.drop n.toNat, false, ()))
def textR (r : Rd) : ByteArray × Rd :=
  if (r.2.1 || !(takeTextS r.1).2.2) = true then (no, (r.1, true, ())) else ((takeTextS r.1).1, (r.1.drop (takeTextS r.1).2.1.toNat, false, ()))
theorem numS_B {r : Rd} (h : isB r.1) (n : Int) : isB (numS r n).2.1 := by
  unfold numS
  split
  · exact h
  · exact isB_drop h _
theorem textR_B {r : Rd} (h : isB r.1) : isB (textR r).2.1 := by
  unfold textR
  split
  · exact h
  · exact isB_drop h _
theorem numS_bad {r : Rd} {n : Int} (h : r.2.1 = true ∨ (takeS r.1 n).2 = false) : numS r n = (0, (r.1, true, ())) := by
  unfold numS
  rw [if_pos (by rcases h with h | h <;> rw [h] <;> simp)]
theorem numS_ok {r : Rd} {n : Int} (h : r.2.1 = false) (h2 : (takeS r.1 n).2 = true) : numS r n = ((takeS r.1 n).1, (r.1.drop n.toNat, false, ())) := by
  unfold numS
  rw [if_neg (by rw [h, h2]; decide)]
theorem textR_bad {r : Rd} (h : r.2.1 = true ∨ (takeTextS r.1).2.2 = false) : textR r = (no, (r.1, true, ())) := by
  unfold textR
  rw [if_pos (by rcases h with h | h <;> rw [h] <;> simp)]
theorem textR_ok {r : Rd} (h : r.2.1 = false) (h2 : (takeTextS r.1).2.2 = true) : textR r = ((takeTextS r.1).1, (r.1.drop (takeTextS r.1).2.1.toNat, false, ())) := by
  unfold textR
  rw [if_neg (by rw [h, h2]; decide)]
/-- The contract of (*glacisref1.Reader).Num. -/
def rnumQC : Con := conN [(.o, .prod (.slice (.int .u8)) (.prod .bool .unit)), (.v, .int .i64)] fun (r, n, _) => if isB r.1 then some ⟨.val ⟨.int .i64, (numS r n).1⟩, [⟨RdT, (numS r n).2⟩]⟩ else none
theorem rnumQC_eq {r : Ty.den (.prod (.slice (.int .u8)) (.prod .bool .unit))} {n : Int} : rnumQC [.obj ⟨.prod (.slice (.int .u8)) (.prod .bool .unit), r⟩, .val ⟨.int .i64, n⟩] = if isB r.1 then some ⟨.val ⟨.int .i64, (numS r n).1⟩, [⟨RdT, (numS r n).2⟩]⟩ else none := conN_mk (ks := [(.o, .prod (.slice (.int .u8)) (.prod .bool .unit)), (.v, .int .i64)]) (r, n, ())
def ΓrnumQ : Cons := cons [(34, rtakeC)]
theorem rnumQ_ex (r : Ty.den (.prod (.slice (.int .u8)) (.prod .bool .unit))) (n : Int) (hr : isB r.1) : Ex tab ΓrnumQ (Try.f24.body.getD .skip) (EndsF tab Try.f24.results.toList [.obj ⟨.prod (.slice (.int .u8)) (.prod .bool .unit), r⟩, .val ⟨.int .i64, n⟩] ⟨.val ⟨.int .i64, (numS r n).1⟩, [⟨RdT, (numS r n).2⟩]⟩) (ini [.obj ⟨.prod (.slice (.int .u8)) (.prod .bool .unit), r⟩, .val ⟨.int .i64, n⟩]) := by
  have g_rtake : ΓrnumQ 34 = some rtakeC := rfl
  simp only [Try.f24, Option.getD_some]
  simp (implicitDefEqProofs := false) (decide := true) (maxSteps := 4000000) [ini, g_rtake, rtakeC_eq]
  rw [rtakeS_eq hr]
  refine br_intro (fun h => ?_) fun h2 => br_intro (fun h => ?_) fun h1 => ?_
  · rw [numS_bad (.inr (not_t h))]; exact ⟨rfl, rfl⟩
  · rw [numS_bad (.inl h)]
    refine ⟨rfl, ?_⟩
    show ((r.1, r.2.1, ()) : Rd) = _
    rw [h]
  · have h2 := not_f h2
    have := takeS_true h2
    rw [numS_ok h1 h2, take_rest]
    refine ⟨⟨by omega, this.2.2⟩, rfl, ?_⟩
    show (_, r.2.1, ()) = _
    rw [h1]
theorem rnumQ_ok : ConOK Try.prog 24 rnumQC := by
  refine con_ok tab_ok (Γ := ΓrnumQ) (consOK_cons rtake_ok consOK_nil) (by kernel_rfl) Try.func24 (by kernel_rfl) ?_
  intro args out h
  obtain ⟨x, e, h1⟩ := conN_inv h
  clear h
  obtain ⟨r, n, x0⟩ := x
  subst e
  replace h1 : (if isB r.1 then some ⟨.val ⟨.int .i64, (numS r n).1⟩, [⟨RdT, (numS r n).2⟩]⟩ else none) = some out := h1
  split at h1
  case isFalse => cases h1
  rename_i hr
  injection h1 with h1
  subst h1
  exact ⟨by rw [mkArgs_len]; decide, rnumQ_ex r n hr⟩
end Go.Proofs.Ytmcemcdjfodchaa
