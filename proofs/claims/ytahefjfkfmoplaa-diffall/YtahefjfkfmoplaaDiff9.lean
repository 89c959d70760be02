/- diff: the law's sameness. -/
import Derived.Test.YtahefjfkfmoplaaDiff8
set_option maxRecDepth 10000
set_option maxHeartbeats 1000000
set_option linter.unusedSimpArgs false
set_option linter.unusedVariables false
set_option pp.deepTerms.threshold 14
namespace Go.Proofs.Ytahefjfkfmoplaa
open Go.Tm Go.IntWalk
/-- The contract of glacislaw20.same. -/
def wsameC : Con := conN [(.v, .slice (.prod (.int .i64) (.prod .str (.prod (.int .i64) .unit)))), (.v, .slice (.prod (.int .i64) (.prod .str (.prod (.int .i64) .unit))))] fun (l, m, _) => if l.length ≤ 100000 then some ⟨.val ⟨.bool, decide (l = m)⟩, []⟩ else none
theorem wsameC_eq {l : List (Ty.den (.prod (.int .i64) (.prod .str (.prod (.int .i64) .unit))))} {m : List (Ty.den (.prod (.int .i64) (.prod .str (.prod (.int .i64) .unit))))} : wsameC [.val ⟨.slice (.prod (.int .i64) (.prod .str (.prod (.int .i64) .unit))), l⟩, .val ⟨.slice (.prod (.int .i64) (.prod .str (.prod (.int .i64) .unit))), m⟩] = if l.length ≤ 100000 then some ⟨.val ⟨.bool, decide (l = m)⟩, []⟩ else none := conN_mk (ks := [(.v, .slice (.prod (.int .i64) (.prod .str (.prod (.int .i64) .unit)))), (.v, .slice (.prod (.int .i64) (.prod .str (.prod (.int .i64) .unit))))]) (l, m, ())
def Γwsame : Cons := cons [(36, rsameEC)]
theorem wsame_ex (l : List (Ty.den (.prod (.int .i64) (.prod .str (.prod (.int .i64) .unit))))) (m : List (Ty.den (.prod (.int .i64) (.prod .str (.prod (.int .i64) .unit))))) (hr : l.length ≤ 100000) : Ex tab Γwsame (Try.f13.body.getD .skip) (EndsF tab Try.f13.results.toList [.val ⟨.slice (.prod (.int .i64) (.prod .str (.prod (.int .i64) .unit))), l⟩, .val ⟨.slice (.prod (.int .i64) (.prod .str (.prod (.int .i64) .unit))), m⟩] ⟨.val ⟨.bool, decide (l = m)⟩, []⟩) (ini [.val ⟨.slice (.prod (.int .i64) (.prod .str (.prod (.int .i64) .unit))), l⟩, .val ⟨.slice (.prod (.int .i64) (.prod .str (.prod (.int .i64) .unit))), m⟩]) := by
  have g_rsameE : Γwsame 36 = some rsameEC := rfl
  simp only [Try.f13, Option.getD_some]
  simp (implicitDefEqProofs := false) (decide := true) (maxSteps := 4000000) [ini, g_rsameE, rsameEC_eq]
  refine ex_loopN 5 EnT rfl (σ := Nat × Nat × List En) [5, 6, 7, 8, 9, 10, 11, 12, 13, 14, 15, 16, 17, 18, 19, 20, 21, 22, 23, 24, 25, 26, 27, 28, 29, 30, 31] (fun a => [(6, .val (.int .i64) (a.1 : Int)), (5, .own a.2.1 EnT a.2.2)]) (fun a => a.1 ≤ l.length ∧ a.2.2 = l.take a.1) (fun a => l.length - a.1) (fun m => ⟨(0, m, []), ⟨Nat.zero_le _, by simp⟩, hc rfl (hc rfl hn)⟩) ?_
  rintro m2 j ⟨i, q, row⟩ ⟨hi, hrow⟩
  simp only at hi hrow
  simp (implicitDefEqProofs := false) (decide := true) (maxSteps := 4000000) [ini, g_rsameE, rsameEC_eq]
  have hrl : row.length ≤ i := by rw [hrow, List.length_take]; exact Nat.min_le_left _ _
  intro _
  refine br_dec (fun hlt m3 => ⟨hlt, by omega, i + 1, _, _, ⟨hlt, ?_⟩, by omega, w_nat rfl (by omega), rfl, rfl⟩) fun hge => ?_
  · rw [List.take_succ_eq_append_getElem hlt, hrow, List.getElem?_eq_getElem hlt]
    rfl
  · have hi2 : i = l.length := by omega
    rw [hrow, hi2, List.take_length]
theorem wsame_ok : ConOK Try.prog 13 wsameC := by
  refine con_ok tab_ok (Γ := Γwsame) (consOK_cons rsameE_ok consOK_nil) (by kernel_rfl) Try.func13 (by kernel_rfl) ?_
  intro args out h
  obtain ⟨x, e, h1⟩ := conN_inv h
  clear h
  obtain ⟨l, m, x0⟩ := x
  subst e
  replace h1 : (if l.length ≤ 100000 then some ⟨.val ⟨.bool, decide (l = m)⟩, []⟩ else none) = some out := h1
  split at h1
  case isFalse => cases h1
  rename_i hr
  injection h1 with h1
  subst h1
  exact ⟨by rw [mkArgs_len]; decide, wsame_ex l m hr⟩
end Go.Proofs.Ytahefjfkfmoplaa
