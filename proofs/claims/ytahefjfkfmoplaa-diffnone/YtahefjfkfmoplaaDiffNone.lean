import Derived.Test.YtahefjfkfmoplaaDiff6
set_option maxRecDepth 10000
set_option maxHeartbeats 2000000
set_option linter.unusedSimpArgs false
set_option linter.unusedVariables false
set_option pp.deepTerms.threshold 20
namespace Go.Proofs.Ytahefjfkfmoplaa
open Go.Tm Go.IntWalk
noncomputable def ΓdiffNone : Cons := cons [(9, wbegunC), (10, pmadeC), (11, ptreeC), (12, pgrownC), (16, dgoneC), (19, ddeadC), (21, dmadeC), (23, dchangedC), (25, rsameTC)]
theorem ΓdiffNone_ok : ConsOK Try.prog ΓdiffNone := (consOK_cons wbegun_ok (consOK_cons pmade_ok (consOK_cons ptree_ok (consOK_cons pgrown_ok (consOK_cons dgone_ok (consOK_cons ddead_ok (consOK_cons dmade_ok (consOK_cons dchanged_ok (consOK_cons rsameT_ok consOK_nil)))))))))
theorem diffNone_ex : LawEx tab ΓdiffNone Try.f4 [.slice (.int .u8), .slice (.int .u8)] := by
  intro l h1 h2
  obtain ⟨p1, l1, rfl, e1⟩ := types_cons h1
  obtain ⟨p2, l2, rfl, e2⟩ := types_cons e1
  obtain rfl := types_nil e2
  clear h1 e1 e2
  have g_wbegun : ΓdiffNone 9 = some wbegunC := rfl
  have g_pmade : ΓdiffNone 10 = some pmadeC := rfl
  have g_ptree : ΓdiffNone 11 = some ptreeC := rfl
  have g_pgrown : ΓdiffNone 12 = some pgrownC := rfl
  have g_dgone : ΓdiffNone 16 = some dgoneC := rfl
  have g_ddead : ΓdiffNone 19 = some ddeadC := rfl
  have g_dmade : ΓdiffNone 21 = some dmadeC := rfl
  have g_dchanged : ΓdiffNone 23 = some dchangedC := rfl
  have g_rsameT : ΓdiffNone 25 = some rsameTC := rfl
  have b_p1 : isB p1 := okv_bytes (h2 ⟨_, p1⟩ (by simp))
  have b_p2 : isB p2 := okv_bytes (h2 ⟨_, p2⟩ (by simp))
  clear h2
  simp only [Try.f4, Option.getD_some]
  simp (implicitDefEqProofs := false) (decide := true) (maxSteps := 4000000) [ini, g_wbegun, wbegunC_eq, g_pmade, pmadeC_eq, g_ptree, ptreeC_eq, g_pgrown, pgrownC_eq, g_dgone, dgoneC_eq, g_ddead, ddeadC_eq, g_dmade, dmadeC_eq, g_dchanged, dchangedC_eq, g_rsameT, rsameTC_eq]
  intro _ hp1 _ hp2
  have o1 : okP (p1, 0, ()) := ⟨b_p1, Int.le_refl 0, by simp only; omega, by simp only; omega⟩
  have o2 : okP (p2, 0, ()) := ⟨b_p2, Int.le_refl 0, by simp only; omega, by simp only; omega⟩
  have gt : GoodT (grownP 30 (p1, 0, ()) newT).1 := good_grown newT_good
  have gu : GoodT (grownP 3 (p2, 0, ()) (grownP 30 (p1, 0, ()) newT).1).1 := good_grown gt
  generalize (grownP 3 (p2, 0, ()) (grownP 30 (p1, 0, ()) newT).1).1 = u at gu ⊢
  generalize (grownP 30 (p1, 0, ()) newT).1 = t at gt ⊢
  have lt := gt.len
  have lu := gu.len
  have l1 : t.length ≤ 1000 := by omega
  have l2 : u.length ≤ 1000 := by omega
  have ft := good_fit gt
  have fu := good_fit gu
  have eg : t = u → goneD t u = [] ∧ goneD u t = [] ∧ deadD t u = [] ∧ deadD u t = [] ∧ chgD t u = [] := fun e => by
    subst e; exact ⟨gone_self gt, gone_self gt, dead_self gt, dead_self gt, chg_self⟩
  have zero : ∀ {α : Type} {l : List α}, (((l.length : Int) == 0) = true) → l = [] := fun h => List.eq_nil_of_length_eq_zero (by have := eq_of_beq h; omega)
  have some' : ∀ {α : Type} {l : List α}, (((l.length : Int) == 0) = false) → l ≠ [] := fun h e => by rw [e] at h; simp at h
  have rest : (t.length ≤ 1000 ∧ u.length ≤ 1000) ∧ ((deadD u t).length ≤ maxLen → u.length ≤ 1000 ∧ t.length ≤ 1000) := ⟨⟨l1, l2⟩, fun _ => ⟨l2, l1⟩⟩
  refine ⟨o1, ⟨o2, gt⟩, ⟨ft, fu⟩, fun _ => br_intro (fun z1 => ⟨⟨fu, ft⟩, fun _ => br_intro (fun z2 => ⟨⟨l1, l2⟩, fun _ => br_intro (fun z3 => ⟨⟨l1, l2⟩, fun _ => br_intro (fun z4 => ⟨⟨l1, l2⟩, fun _ => ?_⟩) fun z4 => ⟨l1, fun e => some' z4 (eg e).2.2.2.1, rest⟩⟩) fun z3 => ⟨l1, fun e => some' z3 (eg e).2.2.1, rest⟩⟩) fun z2 => ⟨l1, fun e => some' z2 (eg e).2.1, rest⟩⟩) fun z1 => ⟨l1, fun e => some' z1 (eg e).1, rest⟩⟩
  refine ⟨l1, ?_, rest⟩
  cases hz : (((chgD t u).length : Int) == 0) with
  | true => exact (decide_eq_true (none_same gt gu (zero z1) (zero z2) (zero z3) (zero z4) (zero hz))).symm
  | false => exact (decide_eq_false fun e => some' hz (eg e).2.2.2.2).symm
end Go.Proofs.Ytahefjfkfmoplaa
