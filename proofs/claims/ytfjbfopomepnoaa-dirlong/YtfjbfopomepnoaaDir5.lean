/- dir: one name less, by the program. -/
import Derived.Test.YtfjbfopomepnoaaDir4
set_option maxRecDepth 10000
set_option maxHeartbeats 1000000
set_option linter.unusedSimpArgs false
set_option linter.unusedVariables false
set_option pp.deepTerms.threshold 14
namespace Go.Proofs.Ytfjbfopomepnoaa
open Go.Tm Go.IntWalk
/-- The contract of dir.Less. -/
def dlessDC : Con := conN [(.v, .slice EntT), (.v, .str)] fun (l, nm, _) => if Rises l ∧ l.length ≤ 1000000000000 then some ⟨.tup [⟨.slice EntT, (lessD l nm).1⟩, ⟨.bool, (lessD l nm).2⟩], []⟩ else none
theorem dlessDC_eq {l : List (Ty.den (EntT))} {nm : ByteArray} : dlessDC [.val ⟨.slice EntT, l⟩, .val ⟨.str, nm⟩] = if Rises l ∧ l.length ≤ 1000000000000 then some ⟨.tup [⟨.slice EntT, (lessD l nm).1⟩, ⟨.bool, (lessD l nm).2⟩], []⟩ else none := conN_mk (ks := [(.v, .slice EntT), (.v, .str)]) (l, nm, ())
def ΓdlessD : Cons := cons [(26, dplaceC), (27, dcloneEC), (29, ddelC)]
theorem dlessD_ex (l : List (Ty.den (EntT))) (nm : ByteArray) (hr : Rises l ∧ l.length ≤ 1000000000000) : Ex tab ΓdlessD (Try.f18.body.getD .skip) (EndsF tab Try.f18.results.toList [.val ⟨.slice EntT, l⟩, .val ⟨.str, nm⟩] ⟨.tup [⟨.slice EntT, (lessD l nm).1⟩, ⟨.bool, (lessD l nm).2⟩], []⟩) (ini [.val ⟨.slice EntT, l⟩, .val ⟨.str, nm⟩]) := by
  have g_dplace : ΓdlessD 26 = some dplaceC := rfl
  have g_dcloneE : ΓdlessD 27 = some dcloneEC := rfl
  have g_ddel : ΓdlessD 29 = some ddelC := rfl
  simp only [Try.f18, Option.getD_some]
  simp (implicitDefEqProofs := false) (decide := true) (maxSteps := 4000000) [ini, g_dplace, dplaceC_eq, g_dcloneE, dcloneEC_eq, g_ddel, ddelC_eq]
  obtain ⟨h1, h2⟩ := hr
  refine ⟨⟨h1, h2⟩, h2, br_intro (fun h => ?_) fun h => ?_⟩
  · rw [lessD, if_neg (by rw [find_at h1, show atD l nm = false by simpa using h]; decide)]; exact ⟨rfl, rfl⟩
  · have h : atD l nm = true := by simpa using h
    obtain ⟨hp, _⟩ := atD_iff.1 h
    rw [lessD, if_pos (by rw [find_at h1, h])]
    have hw : IntKind.i64.wrap ((posD l nm : Int) + 1) = ((posD l nm + 1 : Nat) : Int) := w_nat (by omega) (by omega)
    refine ⟨⟨hp, by rw [hw]; omega⟩, (less_at h1 h).symm, rfl⟩
theorem dlessD_ok : ConOK Try.prog 18 dlessDC := by
  refine con_ok tab_ok (Γ := ΓdlessD) (consOK_cons dplace_ok (consOK_cons dcloneE_ok (consOK_cons ddel_ok consOK_nil))) (by kernel_rfl) Try.func18 (by kernel_rfl) ?_
  intro args out h
  obtain ⟨x, e, h1⟩ := conN_inv h
  clear h
  obtain ⟨l, nm, x0⟩ := x
  subst e
  replace h1 : (if Rises l ∧ l.length ≤ 1000000000000 then some ⟨.tup [⟨.slice EntT, (lessD l nm).1⟩, ⟨.bool, (lessD l nm).2⟩], []⟩ else none) = some out := h1
  split at h1
  case isFalse => cases h1
  rename_i hr
  injection h1 with h1
  subst h1
  exact ⟨by rw [mkArgs_len]; decide, dlessD_ex l nm hr⟩
end Go.Proofs.Ytfjbfopomepnoaa
