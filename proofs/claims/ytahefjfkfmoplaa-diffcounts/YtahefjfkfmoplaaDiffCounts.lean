import Derived.Test.YtahefjfkfmoplaaDiff7
set_option maxRecDepth 10000
set_option maxHeartbeats 2000000
set_option linter.unusedSimpArgs false
set_option linter.unusedVariables false
set_option pp.deepTerms.threshold 20
namespace Go.Proofs.Ytahefjfkfmoplaa
open Go.Tm Go.IntWalk
noncomputable def ΓdiffCounts : Cons := cons [(9, wbegunC), (10, pmadeC), (11, ptreeC), (12, pgrownC), (14, dentriesC), (16, dgoneC), (26, rlinksC)]
theorem ΓdiffCounts_ok : ConsOK Try.prog ΓdiffCounts := (consOK_cons wbegun_ok (consOK_cons pmade_ok (consOK_cons ptree_ok (consOK_cons pgrown_ok (consOK_cons dentries_ok (consOK_cons dgone_ok (consOK_cons rlinks_ok consOK_nil)))))))
theorem diffCounts_ex : LawEx tab ΓdiffCounts Try.f5 [.slice (.int .u8), .slice (.int .u8)] := by
  intro l h1 h2
  obtain ⟨p1, l1, rfl, e1⟩ := types_cons h1
  obtain ⟨p2, l2, rfl, e2⟩ := types_cons e1
  obtain rfl := types_nil e2
  clear h1 e1 e2
  have g_wbegun : ΓdiffCounts 9 = some wbegunC := rfl
  have g_pmade : ΓdiffCounts 10 = some pmadeC := rfl
  have g_ptree : ΓdiffCounts 11 = some ptreeC := rfl
  have g_pgrown : ΓdiffCounts 12 = some pgrownC := rfl
  have g_dentries : ΓdiffCounts 14 = some dentriesC := rfl
  have g_dgone : ΓdiffCounts 16 = some dgoneC := rfl
  have g_rlinks : ΓdiffCounts 26 = some rlinksC := rfl
  have b_p1 : isB p1 := okv_bytes (h2 ⟨_, p1⟩ (by simp))
  have b_p2 : isB p2 := okv_bytes (h2 ⟨_, p2⟩ (by simp))
  clear h2
  simp only [Try.f5, Option.getD_some]
  simp (implicitDefEqProofs := false) (decide := true) (maxSteps := 4000000) [ini, g_wbegun, wbegunC_eq, g_pmade, pmadeC_eq, g_ptree, ptreeC_eq, g_pgrown, pgrownC_eq, g_dentries, dentriesC_eq, g_dgone, dgoneC_eq, g_rlinks, rlinksC_eq]
  intro _ hp1 _ hp2
  have o1 : okP (p1, 0, ()) := ⟨b_p1, Int.le_refl 0, by simp only; omega, by simp only; omega⟩
  have o2 : okP (p2, 0, ()) := ⟨b_p2, Int.le_refl 0, by simp only; omega, by simp only; omega⟩
  have gt : GoodT (grownP 30 (p1, 0, ()) newT).1 := good_grown newT_good
  have gu : GoodT (grownP 30 (p2, 0, ()) (grownP 30 (p1, 0, ()) newT).1).1 := good_grown gt
  generalize (grownP 30 (p2, 0, ()) (grownP 30 (p1, 0, ()) newT).1).1 = u at gu ⊢
  generalize (grownP 30 (p1, 0, ()) newT).1 = t at gt ⊢
  have ft := good_fit gt
  have fu := good_fit gu
  have kl := kept_len gt gu
  have g1 := gone_len t u
  have g2 := gone_len u t
  have el := ent_links gt
  have n1 := entN_len t t.length
  have n2 := entN_len u u.length
  have lt := gt.len
  have lu := gu.len
  have m1 : (entD t).length ≤ 40 * t.length := n1
  have m2 : (entD u).length ≤ 40 * u.length := n2
  intro m1'
  refine ⟨o1, fun m2' => ⟨⟨o2, gt⟩, fun m3' => ⟨ft, fun _ => ⟨fu, fun _ => ?_⟩⟩⟩⟩
  refine ex_loopU (σ := Nat) [9, 10, 34, 35, 36, 37, 38, 39, 40, 41, 42] (fun a => [(10, .val (.int .i64) (a : Int)), (9, .val (.int .i64) (sumL t a))]) (fun a => 2 ≤ a ∧ a ≤ 10) (fun a => 10 - a) 2 (by decide) (hc rfl (hc rfl hn)) ?_
  rintro j i ⟨hi1, hi2⟩
  simp (implicitDefEqProofs := false) (decide := true) (maxSteps := 4000000) [ini, g_wbegun, wbegunC_eq, g_pmade, pmadeC_eq, g_ptree, ptreeC_eq, g_pgrown, pgrownC_eq, g_dentries, dentriesC_eq, g_dgone, dgoneC_eq, g_rlinks, rlinksC_eq]
  have lr := links_range gt i
  have sr := sumL_range gt i
  have hs : sumL t (i + 1) = sumL t i + linksT t i := by rw [sumL, if_pos hi1]
  refine br_dec (fun h => ⟨ft, i + 1, ⟨by omega, by omega⟩, by omega, w_nat rfl (by omega), ?_⟩) fun h => ?_
  · rw [hs]; exact i64_in _ (by omega)
  · obtain rfl : i = 10 := by omega
    refine ⟨⟨ft, fu⟩, fun _ => ⟨⟨fu, ft⟩, fun _ => ⟨?_, el⟩⟩⟩
    rw [show ((entD t).length : Int) - (goneD t u).length = (entD u).length - (goneD u t).length by omega]
end Go.Proofs.Ytahefjfkfmoplaa
