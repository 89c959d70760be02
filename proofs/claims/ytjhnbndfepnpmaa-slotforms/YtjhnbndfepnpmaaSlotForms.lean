import Derived.Test.YtjhnbndfepnpmaaSlot4
set_option maxRecDepth 10000
set_option maxHeartbeats 2000000
set_option linter.unusedSimpArgs false
set_option linter.unusedVariables false
set_option pp.deepTerms.threshold 12
namespace Go.Proofs.Ytjhnbndfepnpmaa
open Go.Tm Go.IntWalk
def goodSL : List Sl := [(1, 0, 0, 0, 0, ()), (1073741824, 1073741824, 5, 2, 64, ())]
def badSL : List Sl := [(0, 0, 0, 0, 0, ()), (-1, 0, 0, 0, 0, ()), (1, 0, 0, 0, 65, ()), (1, -1, 0, 0, 0, ()), (1, 0, 1073741825, 0, 0, ()), (1, 0, 0, -1, 0, ()), (1, 0, 0, 0, -1, ())]
theorem goodSL_may : ∀ i < 2, maySl (goodSL[i]?.getD ((0, 0, 0, 0, 0, ()) : Sl)) = true := by decide +kernel
theorem badSL_may : ∀ i < 7, maySl (badSL[i]?.getD ((0, 0, 0, 0, 0, ()) : Sl)) = false := by decide +kernel
abbrev q1 : Sl := (2, 7, 0, 0, 0, ())
abbrev q2 : Sl := (3, 8, 0, 0, 0, ())
abbrev q3 : Sl := (3, 9, 0, 0, 0, ())
theorem q1_take : takeSl (putSl q1) = (q1, true) := takeSl_put (by decide +kernel)
theorem q2_take : takeSl (putSl q2) = (q2, true) := takeSl_put (by decide +kernel)
theorem q3_take : takeSl (putSl q3) = (q3, true) := takeSl_put (by decide +kernel)
theorem junk_take : takeSl ⟨#[106, 117, 110, 107]⟩ = (noSl, false) := takeSl_size (by decide)
theorem bzero : takeB (strOf (List.replicate 64 0)) = (noB, false) := by
  refine if_neg fun h => ?_
  have := (putB_fifth h.2 h.1).2.1
  rw [bytesOf_strOf (isB_rep 64)] at this
  revert this
  decide +kernel
theorem zero_take : takeSl (strOf (List.replicate 64 0)) = (noSl, false) := takeSl_no (by rw [bzero])
theorem other_take : takeSl (putB (4, 1, strOf (List.replicate 16 0), ())) = (noSl, false) := by
  have hm : mayB (4, 1, strOf (List.replicate 16 0), ()) = true := by decide +kernel
  have ht := takeB_put hm
  refine if_neg fun h => ?_
  have h2 := (putSl_text h.1 h.2).2
  rw [ht] at h2
  exact absurd (congrArg Prod.fst h2) (by decide)
theorem nw1 : nw [putSl q1, putSl q2] = (q2, true) := by
  unfold nw
  rw [List.foldl_cons, List.foldl_cons, List.foldl_nil, nw_first (a := (noSl, false)) (by rw [q1_take]) rfl, q1_take, nw_gt (by rw [q2_take]) (by rw [q2_take]; decide), q2_take]
theorem nw2 : nw [putSl q2, putSl q1, putSl q3] = (q2, true) := by
  unfold nw
  rw [List.foldl_cons, List.foldl_cons, List.foldl_cons, List.foldl_nil, nw_first (a := (noSl, false)) (by rw [q2_take]) rfl, q2_take, nw_le (t := putSl q1) rfl (by rw [q1_take]; decide), nw_le (t := putSl q3) rfl (by rw [q3_take]; decide)]
theorem nw3 : nw [putSl q1, ⟨#[106, 117, 110, 107]⟩] = (q1, true) := by
  unfold nw
  rw [List.foldl_cons, List.foldl_cons, List.foldl_nil, nw_first (a := (noSl, false)) (by rw [q1_take]) rfl, q1_take, nw_no (by rw [junk_take])]
theorem nw4 : nw [⟨#[106, 117, 110, 107]⟩, strOf (List.replicate 64 0)] = (noSl, false) := by
  unfold nw
  have h0 : nwStep (noSl, false) ⟨#[106, 117, 110, 107]⟩ = (noSl, false) := nw_no (by rw [junk_take])
  have h1 : nwStep (noSl, false) (strOf (List.replicate 64 0)) = (noSl, false) := nw_no (by rw [zero_take])
  rw [List.foldl_cons, List.foldl_cons, List.foldl_nil, h0, h1]
def ΓslotForms : Cons := cons [(6, sbegunC), (7, smayC), (9, sputC), (12, stakeC), (14, snewestC), (16, rbputC)]
theorem ΓslotForms_ok : ConsOK Try.prog ΓslotForms := (consOK_cons sbegun_ok (consOK_cons smay_ok (consOK_cons sput_ok (consOK_cons stake_ok (consOK_cons snewest_ok (consOK_cons rbput_ok consOK_nil))))))
theorem slotForms_ex : LawEx tab ΓslotForms Try.f5 [] := by
  intro l h1 h2
  obtain rfl := types_nil h1
  clear h1
  have g_sbegun : ΓslotForms 6 = some sbegunC := rfl
  have g_smay : ΓslotForms 7 = some smayC := rfl
  have g_sput : ΓslotForms 9 = some sputC := rfl
  have g_stake : ΓslotForms 12 = some stakeC := rfl
  have g_snewest : ΓslotForms 14 = some snewestC := rfl
  have g_rbput : ΓslotForms 16 = some rbputC := rfl
  clear h2
  simp only [Try.f5, Option.getD_some]
  simp (implicitDefEqProofs := false) (decide := true) (maxSteps := 4000000) [ini, g_sbegun, sbegunC_eq, g_smay, smayC_eq, g_sput, sputC_eq, g_stake, stakeC_eq, g_snewest, snewestC_eq, g_rbput, rbputC_eq]
  intro m m1
  refine ex_loopR 1 (t := SlT) (v := goodSL) rfl (σ := Nat) [0, 3, 4, 5, 33, 34, 35, 36, 37, 38, 39, 40, 41, 42, 43, 44, 45, 46, 47, 48, 49, 50, 51, 52, 53, 54, 55, 56, 57, 58, 59, 60, 61, 62, 63, 64, 65] (fun a => [(3, .val (.int .i64) (a : Int))]) (fun a => a ≤ 2) (fun a => 2 - a) 0 (by simp) (hc rfl hn) ?_
  rintro j i hi
  have hl10 : goodSL.length = 2 := rfl
  simp (implicitDefEqProofs := false) (decide := true) (maxSteps := 4000000) [ini, g_sbegun, sbegunC_eq, g_smay, smayC_eq, g_sput, sputC_eq, g_stake, stakeC_eq, g_snewest, snewestC_eq, g_rbput, rbputC_eq]
  refine br_dec (fun hlt => ?_) (fun hge => ?_)
  · have hlt : i < 2 := hlt
    have hm := goodSL_may i hlt
    generalize goodSL[i]?.getD ((0, 0, 0, 0, 0, ()) : Sl) = c at hm ⊢
    rw [takeSl_put hm]
    exact ⟨hlt, hm, rfl, hlt, same_refl (t := SlT) (by decide) c, i + 1, by omega, by omega, w_nat rfl (by omega)⟩
  · obtain rfl : i = 2 := by have : ¬ i < 2 := hge; omega
    refine ex_loopR 2 (t := SlT) (v := badSL) rfl (σ := Nat) [0, 6, 66, 67, 68, 69, 70, 71, 72, 73, 74, 75, 76, 77, 78, 79, 80, 81, 82, 83, 84] (fun a => [(6, .val (.int .i64) (a : Int))]) (fun a => a ≤ 7) (fun a => 7 - a) 0 (by simp) (hc rfl hn) ?_
    rintro j2 i2 hi2
    have hl15 : badSL.length = 7 := rfl
    simp (implicitDefEqProofs := false) (decide := true) (maxSteps := 4000000) [ini, g_sbegun, sbegunC_eq, g_smay, smayC_eq, g_sput, sputC_eq, g_stake, stakeC_eq, g_snewest, snewestC_eq, g_rbput, rbputC_eq, nw1, nw2, nw3, nw4, other_take]
    intro hlt
    have hlt : i2 < 7 := hlt
    have hm := badSL_may i2 hlt
    generalize badSL[i2]?.getD ((0, 0, 0, 0, 0, ()) : Sl) = c at hm ⊢
    rw [putSl_no hm]
    exact ⟨hlt, hm, hlt, by decide +kernel, i2 + 1, by omega, by omega, w_nat rfl (by omega)⟩
end Go.Proofs.Ytjhnbndfepnpmaa
