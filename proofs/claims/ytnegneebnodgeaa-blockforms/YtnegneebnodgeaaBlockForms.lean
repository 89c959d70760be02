import Derived.Test.YtnegneebnodgeaaBlock3
set_option maxRecDepth 10000
set_option maxHeartbeats 2000000
set_option linter.unusedSimpArgs false
set_option linter.unusedVariables false
set_option pp.deepTerms.threshold 12
namespace Go.Proofs.Ytnegneebnodgeaa
open Go.Tm Go.IntWalk
def goodBL : List Blk := [(1, 0, no, ()), (5, 1073741824, strOf (List.replicate 55 0), ()), (3, 0, ⟨#[120]⟩, ())]
def badBL : List Blk := [(0, 0, no, ()), (6, 0, no, ()), (-1, 0, no, ()), (1, -1, no, ()), (1, 1073741825, no, ()), (1, 0, strOf (List.replicate 55 0) ++ ⟨#[120]⟩, ())]
theorem goodBL_may : ∀ i < 3, mayB (goodBL[i]?.getD ((0, 0, no, ()) : Blk)) = true := by decide +kernel
theorem badBL_may : ∀ i < 6, mayB (badBL[i]?.getD ((0, 0, no, ()) : Blk)) = false := by decide +kernel
def ΓblockForms : Cons := cons [(7, bbegunC), (10, bmayC), (12, bputC), (14, btakeC)]
theorem ΓblockForms_ok : ConsOK Try.prog ΓblockForms := (consOK_cons bbegun_ok (consOK_cons bmay_ok (consOK_cons bput_ok (consOK_cons btake_ok consOK_nil))))
theorem blockForms_ex : LawEx tab ΓblockForms Try.f5 [] := by
  intro l h1 h2
  obtain rfl := types_nil h1
  clear h1
  have g_bbegun : ΓblockForms 7 = some bbegunC := rfl
  have g_bmay : ΓblockForms 10 = some bmayC := rfl
  have g_bput : ΓblockForms 12 = some bputC := rfl
  have g_btake : ΓblockForms 14 = some btakeC := rfl
  clear h2
  simp only [Try.f5, Option.getD_some]
  simp (implicitDefEqProofs := false) (decide := true) (maxSteps := 4000000) [ini, g_bbegun, bbegunC_eq, g_bmay, bmayC_eq, g_bput, bputC_eq, g_btake, btakeC_eq]
  intro m m1 m2
  refine ex_loopR 2 (t := BlkT) (v := goodBL) rfl (σ := Nat) [0, 4, 5, 6, 31, 32, 33, 34, 35, 36, 37, 38, 39, 40, 41, 42, 43, 44, 45, 46, 47, 48, 49, 50, 51, 52, 53, 54, 55, 56, 57, 58, 59, 60, 61, 62, 63] (fun a => [(4, .val (.int .i64) (a : Int))]) (fun a => a ≤ 3) (fun a => 3 - a) 0 (by simp) (hc rfl hn) ?_
  rintro j i hi
  have hl10 : goodBL.length = 3 := rfl
  simp (implicitDefEqProofs := false) (decide := true) (maxSteps := 4000000) [ini, g_bbegun, bbegunC_eq, g_bmay, bmayC_eq, g_bput, bputC_eq, g_btake, btakeC_eq]
  refine br_dec (fun hlt => ?_) (fun hge => ?_)
  · have hlt : i < 3 := hlt
    have hm := goodBL_may i hlt
    generalize goodBL[i]?.getD ((0, 0, no, ()) : Blk) = c at hm ⊢
    rw [takeB_put hm]
    exact ⟨hlt, hm, rfl, hlt, same_refl (t := BlkT) (by decide) c, i + 1, by omega, by omega, w_nat rfl (by omega)⟩
  · obtain rfl : i = 3 := by have : ¬ i < 3 := hge; omega
    refine ex_loopR 3 (t := BlkT) (v := badBL) rfl (σ := Nat) [0, 7, 64, 65, 66, 67, 68, 69, 70, 71, 72, 73, 74, 75, 76, 77, 78, 79, 80, 81, 82] (fun a => [(7, .val (.int .i64) (a : Int))]) (fun a => a ≤ 6) (fun a => 6 - a) 0 (by simp) (hc rfl hn) ?_
    rintro j2 i2 hi2
    have hl15 : badBL.length = 6 := rfl
    simp (implicitDefEqProofs := false) (decide := true) (maxSteps := 4000000) [ini, g_bbegun, bbegunC_eq, g_bmay, bmayC_eq, g_bput, bputC_eq, g_btake, btakeC_eq]
    refine br_dec (fun hlt => ?_) (fun hge2 => ?_)
    · have hlt : i2 < 6 := hlt
      have hm := badBL_may i2 hlt
      generalize badBL[i2]?.getD ((0, 0, no, ()) : Blk) = c at hm ⊢
      rw [putB_no hm]
      exact ⟨hlt, hm, hlt, by decide +kernel, i2 + 1, by omega, by omega, w_nat rfl (by omega)⟩
    · rw [ba_toList]; decide +kernel
end Go.Proofs.Ytnegneebnodgeaa
