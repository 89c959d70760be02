import Derived.Test.YtahefjfkfmoplaaDiff5
set_option maxRecDepth 10000
set_option maxHeartbeats 2000000
set_option linter.unusedSimpArgs false
set_option linter.unusedVariables false
set_option pp.deepTerms.threshold 20
namespace Go.Proofs.Ytahefjfkfmoplaa
open Go.Tm Go.IntWalk
noncomputable def ΓdiffBack : Cons := cons [(9, wbegunC), (10, pmadeC), (11, ptreeC), (12, pgrownC), (21, dmadeC), (19, ddeadC), (18, rsameIC), (23, dchangedC), (16, dgoneC)]
theorem ΓdiffBack_ok : ConsOK Try.prog ΓdiffBack := (consOK_cons wbegun_ok (consOK_cons pmade_ok (consOK_cons ptree_ok (consOK_cons pgrown_ok (consOK_cons dmade_ok (consOK_cons ddead_ok (consOK_cons rsameI_ok (consOK_cons dchanged_ok (consOK_cons dgone_ok consOK_nil)))))))))
theorem diffBack_ex : LawEx tab ΓdiffBack Try.f8 [.slice (.int .u8), .slice (.int .u8)] := by
  intro l h1 h2
  obtain ⟨p1, l1, rfl, e1⟩ := types_cons h1
  obtain ⟨p2, l2, rfl, e2⟩ := types_cons e1
  obtain rfl := types_nil e2
  clear h1 e1 e2
  have g_wbegun : ΓdiffBack 9 = some wbegunC := rfl
  have g_pmade : ΓdiffBack 10 = some pmadeC := rfl
  have g_ptree : ΓdiffBack 11 = some ptreeC := rfl
  have g_pgrown : ΓdiffBack 12 = some pgrownC := rfl
  have g_dmade : ΓdiffBack 21 = some dmadeC := rfl
  have g_ddead : ΓdiffBack 19 = some ddeadC := rfl
  have g_rsameI : ΓdiffBack 18 = some rsameIC := rfl
  have g_dchanged : ΓdiffBack 23 = some dchangedC := rfl
  have g_dgone : ΓdiffBack 16 = some dgoneC := rfl
  have b_p1 : isB p1 := okv_bytes (h2 ⟨_, p1⟩ (by simp))
  have b_p2 : isB p2 := okv_bytes (h2 ⟨_, p2⟩ (by simp))
  clear h2
  simp only [Try.f8, Option.getD_some]
  simp (implicitDefEqProofs := false) (decide := true) (maxSteps := 4000000) [ini, g_wbegun, wbegunC_eq, g_pmade, pmadeC_eq, g_ptree, ptreeC_eq, g_pgrown, pgrownC_eq, g_dmade, dmadeC_eq, g_ddead, ddeadC_eq, g_rsameI, rsameIC_eq, g_dchanged, dchangedC_eq, g_dgone, dgoneC_eq]
  intro _ hp1 _ hp2
  have o1 : okP (p1, 0, ()) := ⟨b_p1, Int.le_refl 0, by simp only; omega, by simp only; omega⟩
  have o2 : okP (p2, 0, ()) := ⟨b_p2, Int.le_refl 0, by simp only; omega, by simp only; omega⟩
  have gt : GoodT (grownP 30 (p1, 0, ()) newT).1 := good_grown newT_good
  have gu : GoodT (grownP 30 (p2, 0, ()) (grownP 30 (p1, 0, ()) newT).1).1 := good_grown gt
  generalize (grownP 30 (p2, 0, ()) (grownP 30 (p1, 0, ()) newT).1).1 = u at gu ⊢
  generalize (grownP 30 (p1, 0, ()) newT).1 = t at gt ⊢
  have lt := gt.len
  have lu := gu.len
  have l1 : t.length ≤ 1000 := by omega
  have l2 : u.length ≤ 1000 := by omega
  exact ⟨o1, ⟨o2, gt⟩, ⟨l1, l2⟩, ⟨l2, l1⟩, ⟨l1, l2⟩, ⟨l2, l1⟩, chg_comm (by omega), good_fit gt, fun _ => ⟨gone_self gt, l2, fun _ => ⟨dead_self gu, l1, fun _ => chg_self⟩⟩⟩
end Go.Proofs.Ytahefjfkfmoplaa
