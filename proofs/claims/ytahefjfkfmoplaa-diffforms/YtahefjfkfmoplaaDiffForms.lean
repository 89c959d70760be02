/- diff: what differs between some trees. -/
import Derived.Test.YtahefjfkfmoplaaDiff6
import Derived.Test.YtahefjfkfmoplaaPInd
set_option maxRecDepth 10000
set_option maxHeartbeats 2000000
set_option linter.unusedSimpArgs false
set_option linter.unusedVariables false
set_option pp.deepTerms.threshold 20
namespace Go.Proofs.Ytahefjfkfmoplaa
open Go.Tm Go.IntWalk
def f1T : List Node := (2, 7, ⟨#[1, 100, 2]⟩, ()) :: (2, 1, no, ()) :: List.replicate 7 dfltN
def f2T : List Node := (2, 7, ⟨#[1, 100, 2]⟩, ()) :: (2, 1, ⟨#[1, 102, 3]⟩, ()) :: (1, 1, no, ()) :: List.replicate 6 dfltN
def f3T : List Node := (2, 7, ⟨#[1, 100, 2, 1, 103, 3]⟩, ()) :: (2, 1, ⟨#[1, 102, 3]⟩, ()) :: (1, 1, no, ()) :: List.replicate 6 dfltN
def f4T : List Node := (2, 7, ⟨#[1, 100, 2, 1, 104, 3]⟩, ()) :: (2, 1, ⟨#[1, 102, 3]⟩, ()) :: (1, 1, no, ()) :: List.replicate 6 dfltN
def f5T : List Node := (2, 9, ⟨#[1, 100, 2, 1, 104, 3]⟩, ()) :: (2, 1, ⟨#[1, 102, 3]⟩, ()) :: (1, 1, no, ()) :: List.replicate 6 dfltN
def f6T : List Node := (2, 7, ⟨#[1, 100, 2]⟩, ()) :: (1, 1, no, ()) :: List.replicate 7 dfltN
def f7T : List Node := (2, 7, ⟨#[1, 100, 2]⟩, ()) :: (1, 1, ⟨#[120]⟩, ()) :: List.replicate 7 dfltN
theorem wf_1 : makeT newT ⟨#[47, 100]⟩ 2 1 0 false = (f1T, 0) := by decide +kernel
theorem wf_2 : makeT f1T ⟨#[47, 100, 47, 102]⟩ 1 1 0 false = (f2T, 0) := by decide +kernel
theorem wf_3 : linkT f2T ⟨#[47, 100, 47, 102]⟩ ⟨#[47, 103]⟩ false = (f3T, 0) := by decide +kernel
theorem wf_4 : moveT f3T ⟨#[47, 103]⟩ ⟨#[47, 104]⟩ false = (f4T, 0) := by
  unfold moveT
  rw [if_neg (by decide +kernel), if_neg (by decide +kernel), if_neg (by decide +kernel), if_neg (by decide +kernel), if_neg (by decide +kernel), if_neg (by decide +kernel), if_neg (by decide +kernel),
    if_neg (fun h => absurd h.1 (by decide +kernel)), if_neg (by decide +kernel)]
  decide +kernel
theorem wf_5 : modeT f4T ⟨#[47]⟩ 9 false = (f5T, 0) := by decide +kernel
theorem wf_6 : makeT newT ⟨#[47, 100]⟩ 1 1 0 false = (f6T, 0) := by decide +kernel
theorem wf_7 : writeT f6T ⟨#[47, 100]⟩ 0 ⟨#[120]⟩ false = (f7T, 0) := by decide +kernel
theorem wf_e : entD f3T = [(1, ⟨#[100]⟩, 2, ()), (1, ⟨#[103]⟩, 3, ()), (2, ⟨#[102]⟩, 3, ())] := by decide +kernel
theorem wf_g : goneD f3T f5T = [(1, ⟨#[103]⟩, 3, ())] := by decide +kernel
theorem wf_k : goneD f3T f7T = [(1, ⟨#[100]⟩, 2, ()), (1, ⟨#[103]⟩, 3, ()), (2, ⟨#[102]⟩, 3, ())] := by decide +kernel
theorem wf_d : deadD f3T f7T = [2, 3] := by decide +kernel
theorem wf_m : deadD f7T f3T = [2] := by decide +kernel
theorem wf_n : chgD f3T f5T = [1] := by decide +kernel
theorem wf_n2 : chgD f3T f7T = [] := by decide +kernel
theorem wf_d2 : deadD f3T f5T = [] := by decide +kernel
theorem wf_m2 : deadD f5T f3T = [] := by decide +kernel
theorem wf_l3 : f3T.length = 9 := rfl
theorem wf_l5 : f5T.length = 9 := rfl
theorem wf_l7 : f7T.length = 9 := rfl
theorem wf_g1 : GoodT f1T := by have := good_makeT newT_good ⟨#[47, 100]⟩ 2 1 0 false; rwa [wf_1] at this
theorem wf_g2 : GoodT f2T := by have := good_makeT wf_g1 ⟨#[47, 100, 47, 102]⟩ 1 1 0 false; rwa [wf_2] at this
theorem wf_g3 : GoodT f3T := by have := good_linkT wf_g2 ⟨#[47, 100, 47, 102]⟩ ⟨#[47, 103]⟩ false; rwa [wf_3] at this
theorem wf_g4 : GoodT f4T := by have := good_moveT wf_g3 ⟨#[47, 103]⟩ ⟨#[47, 104]⟩ false; rwa [wf_4] at this
theorem wf_g5 : GoodT f5T := by have := good_mode wf_g4 ⟨#[47]⟩ 9 false; rwa [wf_5] at this
theorem wf_g6 : GoodT f6T := by have := good_makeT newT_good ⟨#[47, 100]⟩ 1 1 0 false; rwa [wf_6] at this
theorem wf_g7 : GoodT f7T := by have := good_write wf_g6 ⟨#[47, 100]⟩ 0 ⟨#[120]⟩ false; rwa [wf_7] at this
theorem wf_a3 : allDeep f3T := wf_g3.deep
theorem wf_f1 : fitT f1T := good_fit wf_g1
theorem wf_f2 : fitT f2T := good_fit wf_g2
theorem wf_f3 : fitT f3T := good_fit wf_g3
theorem wf_f4 : fitT f4T := good_fit wf_g4
theorem wf_f5 : fitT f5T := good_fit wf_g5
theorem wf_f6 : fitT f6T := good_fit wf_g6
theorem wf_f7 : fitT f7T := good_fit wf_g7
attribute [-instance] Go.Tm.instDecidableIndep
noncomputable def ΓdiffForms : Cons := cons [(9, wbegunC), (27, rnewTC), (28, rmakeTC), (29, rlinkTC), (30, rmoveTC), (31, rmodeTC), (32, rwriteTC), (14, dentriesC), (16, dgoneC), (19, ddeadC), (21, dmadeC), (23, dchangedC)]
theorem ΓdiffForms_ok : ConsOK Try.prog ΓdiffForms := (consOK_cons wbegun_ok (consOK_cons rnewT_ok (consOK_cons rmakeT_ok (consOK_cons rlinkT_ok (consOK_cons rmoveT_ok (consOK_cons rmodeT_ok (consOK_cons rwriteT_ok (consOK_cons dentries_ok (consOK_cons dgone_ok (consOK_cons ddead_ok (consOK_cons dmade_ok (consOK_cons dchanged_ok consOK_nil))))))))))))
theorem diffForms_ex : LawEx tab ΓdiffForms Try.f6 [] := by
  intro l h1 h2
  obtain rfl := types_nil h1
  clear h1
  have g_wbegun : ΓdiffForms 9 = some wbegunC := rfl
  have g_rnewT : ΓdiffForms 27 = some rnewTC := rfl
  have g_rmakeT : ΓdiffForms 28 = some rmakeTC := rfl
  have g_rlinkT : ΓdiffForms 29 = some rlinkTC := rfl
  have g_rmoveT : ΓdiffForms 30 = some rmoveTC := rfl
  have g_rmodeT : ΓdiffForms 31 = some rmodeTC := rfl
  have g_rwriteT : ΓdiffForms 32 = some rwriteTC := rfl
  have g_dentries : ΓdiffForms 14 = some dentriesC := rfl
  have g_dgone : ΓdiffForms 16 = some dgoneC := rfl
  have g_ddead : ΓdiffForms 19 = some ddeadC := rfl
  have g_dmade : ΓdiffForms 21 = some dmadeC := rfl
  have g_dchanged : ΓdiffForms 23 = some dchangedC := rfl
  clear h2
  simp only [Try.f6, Option.getD_some]
  simp (implicitDefEqProofs := false) (decide := true) (maxSteps := 4000000) [ini, g_wbegun, wbegunC_eq, g_rnewT, rnewTC_eq, g_rmakeT, rmakeTC_eq, g_rlinkT, rlinkTC_eq, g_rmoveT, rmoveTC_eq, g_rmodeT, rmodeTC_eq, g_rwriteT, rwriteTC_eq, g_dentries, dentriesC_eq, g_dgone, dgoneC_eq, g_ddead, ddeadC_eq, g_dmade, dmadeC_eq, g_dchanged, dchangedC_eq, wf_1, wf_2, wf_3, wf_4, wf_5, wf_6, wf_7, wf_e, wf_g, wf_k, wf_d, wf_m, wf_n, wf_n2, wf_d2, wf_m2, wf_l3, wf_l5, wf_l7, wf_a3, wf_f1, wf_f2, wf_f3, wf_f4, wf_f5, wf_f6, wf_f7, fit0, newT_len]
  exact ⟨same_refl (t := EnT) (by decide) _, same_refl (t := EnT) (by decide) _, same_refl (t := EnT) (by decide) _, same_refl (t := EnT) (by decide) _, indep_fast (by decide +kernel)⟩
end Go.Proofs.Ytahefjfkfmoplaa
