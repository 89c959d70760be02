import Derived.Test.YtahefjfkfmoplaaDiff9
import Derived.Test.YtahefjfkfmoplaaPRng
import Derived.Test.YtahefjfkfmoplaaPInd
set_option maxRecDepth 10000
set_option maxHeartbeats 2000000
set_option linter.unusedSimpArgs false
set_option linter.unusedVariables false
set_option pp.deepTerms.threshold 16
namespace Go.Proofs.Ytahefjfkfmoplaa
open Go.Tm Go.IntWalk
noncomputable def ΓdiffAll : Cons := cons [(9, wbegunC), (10, pmadeC), (11, ptreeC), (12, pgrownC), (13, wsameC), (14, dentriesC), (15, rentriesC), (16, dgoneC), (17, rgoneC), (18, rsameIC), (19, ddeadC), (20, rdeadC), (21, dmadeC), (22, rmadeC), (23, dchangedC), (24, rchangedC)]
theorem ΓdiffAll_ok : ConsOK Try.prog ΓdiffAll := (consOK_cons wbegun_ok (consOK_cons pmade_ok (consOK_cons ptree_ok (consOK_cons pgrown_ok (consOK_cons wsame_ok (consOK_cons dentries_ok (consOK_cons rentries_ok (consOK_cons dgone_ok (consOK_cons rgone_ok (consOK_cons rsameI_ok (consOK_cons ddead_ok (consOK_cons rdead_ok (consOK_cons dmade_ok (consOK_cons rmade_ok (consOK_cons dchanged_ok (consOK_cons rchanged_ok consOK_nil))))))))))))))))
theorem diffAll_ex : LawEx tab ΓdiffAll Try.f3 [.slice (.int .u8), .slice (.int .u8), .slice (.int .u8)] := by
  intro l h1 h2
  obtain ⟨p1, l1, rfl, e1⟩ := types_cons h1
  obtain ⟨p2, l2, rfl, e2⟩ := types_cons e1
  obtain ⟨p3, l3, rfl, e3⟩ := types_cons e2
  obtain rfl := types_nil e3
  clear h1 e1 e2 e3
  have g_wbegun : ΓdiffAll 9 = some wbegunC := rfl
  have g_pmade : ΓdiffAll 10 = some pmadeC := rfl
  have g_ptree : ΓdiffAll 11 = some ptreeC := rfl
  have g_pgrown : ΓdiffAll 12 = some pgrownC := rfl
  have g_wsame : ΓdiffAll 13 = some wsameC := rfl
  have g_dentries : ΓdiffAll 14 = some dentriesC := rfl
  have g_rentries : ΓdiffAll 15 = some rentriesC := rfl
  have g_dgone : ΓdiffAll 16 = some dgoneC := rfl
  have g_rgone : ΓdiffAll 17 = some rgoneC := rfl
  have g_rsameI : ΓdiffAll 18 = some rsameIC := rfl
  have g_ddead : ΓdiffAll 19 = some ddeadC := rfl
  have g_rdead : ΓdiffAll 20 = some rdeadC := rfl
  have g_dmade : ΓdiffAll 21 = some dmadeC := rfl
  have g_rmade : ΓdiffAll 22 = some rmadeC := rfl
  have g_dchanged : ΓdiffAll 23 = some dchangedC := rfl
  have g_rchanged : ΓdiffAll 24 = some rchangedC := rfl
  have b_p1 : isB p1 := okv_bytes (h2 ⟨_, p1⟩ (by simp))
  have b_p2 : isB p2 := okv_bytes (h2 ⟨_, p2⟩ (by simp))
  have b_p3 : isB p3 := okv_bytes (h2 ⟨_, p3⟩ (by simp))
  clear h2
  simp only [Try.f3, Option.getD_some]
  simp (implicitDefEqProofs := false) (decide := true) (maxSteps := 4000000) [ini, g_wbegun, wbegunC_eq, g_pmade, pmadeC_eq, g_ptree, ptreeC_eq, g_pgrown, pgrownC_eq, g_wsame, wsameC_eq, g_dentries, dentriesC_eq, g_rentries, rentriesC_eq, g_dgone, dgoneC_eq, g_rgone, rgoneC_eq, g_rsameI, rsameIC_eq, g_ddead, ddeadC_eq, g_rdead, rdeadC_eq, g_dmade, dmadeC_eq, g_rmade, rmadeC_eq, g_dchanged, dchangedC_eq, g_rchanged, rchangedC_eq]
  intro _ hp1 _ hp2 _ hp3 m
  have o1 : okP (p1, 0, ()) := ⟨b_p1, Int.le_refl 0, by simp only; omega, by simp only; omega⟩
  have o2 : okP (p2, 0, ()) := ⟨b_p2, Int.le_refl 0, by simp only; omega, by simp only; omega⟩
  have o3 : okP (p3, 0, ()) := ⟨b_p3, Int.le_refl 0, by simp only; omega, by simp only; omega⟩
  have gt : GoodT (grownP 30 (p1, 0, ()) newT).1 := good_grown newT_good
  refine ⟨o1, fun m1 => ⟨⟨o2, gt⟩, o3, ?_⟩⟩
  have hL : ∀ k : Nat, k < 3 → GoodT ([(grownP 30 (p1, 0, ()) newT).1, (grownP 30 (p2, 0, ()) (grownP 30 (p1, 0, ()) newT).1).1, (grownP 20 (p3, 0, ()) newT).1][k]?.getD []) := by
    intro k hk
    match k, hk with
    | 0, _ => exact gt
    | 1, _ => exact good_grown gt
    | 2, _ => exact good_grown newT_good
  have hLl : [(grownP 30 (p1, 0, ()) newT).1, (grownP 30 (p2, 0, ()) (grownP 30 (p1, 0, ()) newT).1).1, (grownP 20 (p3, 0, ()) newT).1].length = 3 := rfl
  generalize [(grownP 30 (p1, 0, ()) newT).1, (grownP 30 (p2, 0, ()) (grownP 30 (p1, 0, ()) newT).1).1, (grownP 20 (p3, 0, ()) newT).1] = L at hL hLl ⊢
  refine ex_loopU (σ := Nat) (Dn [6, 9, 10] 38 106) (fun a => [(9, .val (.int .i64) (a : Int))]) (fun a => a ≤ 3) (fun a => 3 - a) 0 (by decide) (hc rfl hn) ?_
  rintro j i hi
  simp (implicitDefEqProofs := false) (decide := true) (maxSteps := 4000000) [ini, g_wbegun, wbegunC_eq, g_pmade, pmadeC_eq, g_ptree, ptreeC_eq, g_pgrown, pgrownC_eq, g_wsame, wsameC_eq, g_dentries, dentriesC_eq, g_rentries, rentriesC_eq, g_dgone, dgoneC_eq, g_rgone, rgoneC_eq, g_rsameI, rsameIC_eq, g_ddead, ddeadC_eq, g_rdead, rdeadC_eq, g_dmade, dmadeC_eq, g_rmade, rmadeC_eq, g_dchanged, dchangedC_eq, g_rchanged, rchangedC_eq, hLl]
  refine fun hlt m3 => ?_
  have hi3 : i < 3 := by omega
  have hg := hL i hi3
  have hf := good_fit hg
  have el : (entD (L[i]?.getD [])).length ≤ 100000 := by
    have n1 := entN_len (L[i]?.getD []) (L[i]?.getD []).length
    have lt := hg.len
    have m1 : (entD (L[i]?.getD [])).length ≤ 40 * (L[i]?.getD []).length := n1
    omega
  refine ⟨hlt, hi3, hf, hlt, hi3, hf, el, ?_⟩
  refine ex_loopU (σ := Nat) (Dn [6, 10] 54 90) (fun a => [(10, .val (.int .i64) (a : Int))]) (fun a => a ≤ 3) (fun a => 3 - a) 0 (by decide) (hc rfl hn) ?_
  rintro j2 k hk
  simp (implicitDefEqProofs := false) (decide := true) (maxSteps := 4000000) [ini, hLl, dgoneC_eq, g_dgone]
  refine br_dec (fun hk3 m4 => ?_) fun hk3 => ?_
  · have hkn : k < 3 := by omega
    have hgk := hL k hkn
    have hfk := good_fit hgk
    have hge := gone_eq hg hgk
    have l1 := hg.len
    have l2 := hgk.len
    have ln : (goneD (L[i]?.getD []) (L[k]?.getD [])).length ≤ 100000 := by
      have h1 : (goneD (L[i]?.getD []) (L[k]?.getD [])).length ≤ (entD (L[i]?.getD [])).length := List.length_filter_le _ _
      omega
    have q1 : 9 ≤ (L[i]?.getD []).length := by omega
    have q2 : 9 ≤ (L[k]?.getD []).length := by omega
    have q3 : (L[i]?.getD []).length ≤ 1000 := by omega
    have q4 : (L[k]?.getD []).length ≤ 1000 := by omega
    have q5 : (L[i]?.getD []).length = (L[k]?.getD []).length := by omega
    have ln2 := ln
    rw [hge] at ln2
    refine ⟨hlt, hi3, hk3, hkn, ⟨hf, hfk⟩, hlt, hi3, hk3, hkn, ?_⟩
    simp (implicitDefEqProofs := false) (decide := true) (maxSteps := 4000000) [ini, hLl, rgoneC_eq, g_rgone, hf, hfk, q1, q2]
    simp (implicitDefEqProofs := false) (decide := true) (maxSteps := 4000000) [ini, hLl, wsameC_eq, g_wsame, hge, ln, ln2]
    have ha : (i : Int) < 3 := hlt
    have hb : (k : Int) < 3 := hk3
    simp (implicitDefEqProofs := false) (decide := true) (maxSteps := 4000000) [ini, hLl, ddeadC_eq, g_ddead, ha, hb, q3, q4, q5]
    simp (implicitDefEqProofs := false) (decide := true) (maxSteps := 4000000) [ini, hLl, rdeadC_eq, g_rdead, ha, hb, q3, q4, q5]
    simp (implicitDefEqProofs := false) (decide := true) (maxSteps := 4000000) [ini, hLl, rsameIC_eq, g_rsameI, ha, hb, q3, q4, q5]
    simp (implicitDefEqProofs := false) (decide := true) (maxSteps := 4000000) [ini, hLl, dmadeC_eq, g_dmade, ha, hb, q3, q4, q5]
    simp (implicitDefEqProofs := false) (decide := true) (maxSteps := 4000000) [ini, hLl, rmadeC_eq, g_rmade, ha, hb, q3, q4, q5]
    simp (implicitDefEqProofs := false) (decide := true) (maxSteps := 4000000) [ini, hLl, rsameIC_eq, g_rsameI, ha, hb, q3, q4, q5]
    simp (implicitDefEqProofs := false) (decide := true) (maxSteps := 4000000) [ini, hLl, dchangedC_eq, g_dchanged, ha, hb, q3, q4, q5]
    simp (implicitDefEqProofs := false) (decide := true) (maxSteps := 4000000) [ini, hLl, rchangedC_eq, g_rchanged, ha, hb, q3, q4, q5]
    have hr : rowy rsameIC = false := by decide
    simp (implicitDefEqProofs := false) (decide := false) (maxSteps := 4000000) [ini, hLl, rsameIC_eq, g_rsameI, hr, ha, hb, q3, q4, q5]
    exact ⟨hi3, hkn, hi3, hkn, hi3, hkn, hi3, hkn, hi3, hkn, hi3, hkn, indep_fast (by decide +kernel), k + 1, by omega, by omega, w_nat rfl (by omega)⟩
  · exact ⟨i + 1, by omega, by omega, w_nat rfl (by omega)⟩
end Go.Proofs.Ytahefjfkfmoplaa
