import Derived.Test.YtahefjfkfmoplaaPFits
import Derived.Test.YtahefjfkfmoplaaPRng
import Derived.Test.YtahefjfkfmoplaaPInd
set_option maxRecDepth 10000
set_option maxHeartbeats 2000000
set_option linter.unusedSimpArgs false
set_option linter.unusedVariables false
set_option pp.deepTerms.threshold 16
namespace Go.Proofs.Ytahefjfkfmoplaa
open Go.Tm Go.IntWalk
attribute [-instance] Go.Tm.instDecidableIndep
noncomputable def ΓdiffFits : Cons := cons [(9, wbegunC), (10, pmadeC), (11, ptreeC), (12, pgrownC), (14, dentriesC), (16, dgoneC), (19, ddeadC), (21, dmadeC)]
theorem ΓdiffFits_ok : ConsOK Try.prog ΓdiffFits := (consOK_cons wbegun_ok (consOK_cons pmade_ok (consOK_cons ptree_ok (consOK_cons pgrown_ok (consOK_cons dentries_ok (consOK_cons dgone_ok (consOK_cons ddead_ok (consOK_cons dmade_ok consOK_nil))))))))
theorem diffFits_ex : LawEx tab ΓdiffFits Try.f7 [.slice (.int .u8), .slice (.int .u8)] := by
  intro l h1 h2
  obtain ⟨p1, l1, rfl, e1⟩ := types_cons h1
  obtain ⟨p2, l2, rfl, e2⟩ := types_cons e1
  obtain rfl := types_nil e2
  clear h1 e1 e2
  have g_wbegun : ΓdiffFits 9 = some wbegunC := rfl
  have g_pmade : ΓdiffFits 10 = some pmadeC := rfl
  have g_ptree : ΓdiffFits 11 = some ptreeC := rfl
  have g_pgrown : ΓdiffFits 12 = some pgrownC := rfl
  have g_dentries : ΓdiffFits 14 = some dentriesC := rfl
  have g_dgone : ΓdiffFits 16 = some dgoneC := rfl
  have g_ddead : ΓdiffFits 19 = some ddeadC := rfl
  have g_dmade : ΓdiffFits 21 = some dmadeC := rfl
  have b_p1 : isB p1 := okv_bytes (h2 ⟨_, p1⟩ (by simp))
  have b_p2 : isB p2 := okv_bytes (h2 ⟨_, p2⟩ (by simp))
  clear h2
  simp only [Try.f7, Option.getD_some]
  simp (implicitDefEqProofs := false) (decide := true) (maxSteps := 4000000) [ini, g_wbegun, wbegunC_eq, g_pmade, pmadeC_eq, g_ptree, ptreeC_eq, g_pgrown, pgrownC_eq, g_dentries, dentriesC_eq, g_dgone, dgoneC_eq, g_ddead, ddeadC_eq, g_dmade, dmadeC_eq]
  intro _ hp1 _ hp2
  have o1 : okP (p1, 0, ()) := ⟨b_p1, Int.le_refl 0, by simp only; omega, by simp only; omega⟩
  have o2 : okP (p2, 0, ()) := ⟨b_p2, Int.le_refl 0, by simp only; omega, by simp only; omega⟩
  have gt : GoodT (grownP 30 (p1, 0, ()) newT).1 := good_grown newT_good
  have gu : GoodT (grownP 30 (p2, 0, ()) (grownP 30 (p1, 0, ()) newT).1).1 := good_grown gt
  generalize (grownP 30 (p2, 0, ()) (grownP 30 (p1, 0, ()) newT).1).1 = u at gu ⊢
  generalize (grownP 30 (p1, 0, ()) newT).1 = t at gt ⊢
  have ft := good_fit gt
  have fu := good_fit gu
  have le : (entD u).length ≤ 360 := by
    have n1 := entN_len u u.length
    have := gu.len
    have m1 : (entD u).length ≤ 40 * u.length := n1
    omega
  have le2 : (entD t).length ≤ 360 := by
    have n1 := entN_len t t.length
    have := gt.len
    have m1 : (entD t).length ≤ 40 * t.length := n1
    omega
  have lg : (goneD u t).length ≤ 360 := Nat.le_trans (List.length_filter_le _ _) le
  have lg2 : (goneD t u).length ≤ 360 := Nat.le_trans (List.length_filter_le _ _) le2
  refine fun m1 => ⟨o1, fun m2 => ⟨⟨o2, gt⟩, fun m3 => ⟨⟨ft, fu⟩, ⟨fu, ft⟩, fu, ?_⟩⟩⟩
  refine ex_loopU (σ := Nat) (Dn [4, 10, 11, 12] 48 26) (fun a => [(10, .val (.int .i64) (a : Int))]) (fun a => a ≤ (goneD u t).length) (fun a => (goneD u t).length - a) 0 (Nat.zero_le _) (hc rfl hn) ?_
  rintro j i hi
  simp (implicitDefEqProofs := false) (decide := true) (maxSteps := 4000000) [ini, g_wbegun, wbegunC_eq, g_pmade, pmadeC_eq, g_ptree, ptreeC_eq, g_pgrown, pgrownC_eq, g_dentries, dentriesC_eq, g_dgone, dgoneC_eq, g_ddead, ddeadC_eq, g_dmade, dmadeC_eq]
  refine fun _ => br_dec (fun hlt => ?_) fun hge => ?_
  · have hlt2 : i < (goneD u t).length := by omega
    refine ex_loopU (σ := Nat) (Dn [11, 12] 54 18) (fun a => [(12, .val (.int .i64) (a : Int)), (11, .val .bool (anyE ((entD u).take a) ((goneD u t)[i]?.getD EnT.dflt)))]) (fun a => a ≤ (entD u).length) (fun a => (entD u).length - a) 0 (Nat.zero_le _) (hc rfl (hc rfl hn)) ?_
    rintro j2 k hk
    simp (implicitDefEqProofs := false) (decide := true) (maxSteps := 4000000) [ini, g_wbegun, wbegunC_eq, g_pmade, pmadeC_eq, g_ptree, ptreeC_eq, g_pgrown, pgrownC_eq, g_dentries, dentriesC_eq, g_dgone, dgoneC_eq, g_ddead, ddeadC_eq, g_dmade, dmadeC_eq]
    refine fun _ => br_dec (fun hlt3 => ?_) fun hge2 => ?_
    · exact br_intro (fun ha => ⟨indep_fast (by decide +kernel), k + 1, hlt3, by omega, w_nat rfl (by omega), anyE_yes hlt3 ha⟩) fun ha => ⟨hlt3, hlt2, indep_fast (by decide +kernel), k + 1, hlt3, by omega, w_nat rfl (by omega), anyE_no hlt3 ha⟩
    · refine ⟨?_, i + 1, by omega, by omega, w_nat rfl (by omega)⟩
      rw [anyE_full (by omega)]
      exact fits_come hlt2
  · intro m4
    refine ⟨ft, ?_⟩
    refine ex_loopU (σ := Nat) (Dn [4, 14, 15, 16, 17, 18] 76 77) (fun a => [(14, .val (.int .i64) (a : Int))]) (fun a => a ≤ (entD t).length) (fun a => (entD t).length - a) 0 (Nat.zero_le _) (hc rfl hn) ?_
    rintro j3 q hq
    simp (implicitDefEqProofs := false) (decide := true) (maxSteps := 4000000) [ini, g_wbegun, wbegunC_eq, g_pmade, pmadeC_eq, g_ptree, ptreeC_eq, g_pgrown, pgrownC_eq, g_dentries, dentriesC_eq, g_dgone, dgoneC_eq, g_ddead, ddeadC_eq, g_dmade, dmadeC_eq]
    refine fun _ => br_dec (fun hlt => ?_) fun hge => ?_
    · have hq2 : q < (entD t).length := by omega
      have hqm : (entD t)[q]?.getD EnT.dflt ∈ entD t := getD_mem hq2
      refine ex_loopU (σ := Nat) (Dn [15, 17] 82 18) (fun a => [(17, .val (.int .i64) (a : Int)), (15, .val .bool (anyE ((goneD t u).take a) ((entD t)[q]?.getD EnT.dflt)))]) (fun a => a ≤ (goneD t u).length) (fun a => (goneD t u).length - a) 0 (Nat.zero_le _) (hc rfl (hc rfl hn)) ?_
      rintro j4 k hk
      simp (implicitDefEqProofs := false) (decide := true) (maxSteps := 4000000) [ini, g_wbegun, wbegunC_eq, g_pmade, pmadeC_eq, g_ptree, ptreeC_eq, g_pgrown, pgrownC_eq, g_dentries, dentriesC_eq, g_dgone, dgoneC_eq, g_ddead, ddeadC_eq, g_dmade, dmadeC_eq]
      refine fun _ => br_dec (fun hlt3 => ?_) fun hge2 => ?_
      · exact br_intro (fun ha => ⟨indep_fast (by decide +kernel), k + 1, hlt3, by omega, w_nat rfl (by omega), anyE_yes hlt3 ha⟩) fun ha => ⟨hlt3, hq2, indep_fast (by decide +kernel), k + 1, hlt3, by omega, w_nat rfl (by omega), anyE_no hlt3 ha⟩
      · have hk2 : k = (goneD t u).length := by omega
        subst hk2
        refine ex_loopU (σ := Nat) (Dn [16, 18] 100 18) (fun a => [(18, .val (.int .i64) (a : Int)), (16, .val .bool (anyE ((entD u).take a) ((entD t)[q]?.getD EnT.dflt)))]) (fun a => a ≤ (entD u).length) (fun a => (entD u).length - a) 0 (Nat.zero_le _) (hc rfl (hc rfl hn)) ?_
        rintro j5 k hk
        simp (implicitDefEqProofs := false) (decide := true) (maxSteps := 4000000) [ini, g_wbegun, wbegunC_eq, g_pmade, pmadeC_eq, g_ptree, ptreeC_eq, g_pgrown, pgrownC_eq, g_dentries, dentriesC_eq, g_dgone, dgoneC_eq, g_ddead, ddeadC_eq, g_dmade, dmadeC_eq]
        obtain ⟨e, hd, he, hmem, _⟩ := split_at hq2
        simp only [he]
        obtain ⟨_, _, _, k4, k5, k6⟩ := ent_kinds gt hmem
        have l1 := gt.len
        have l2 := gu.len
        have hw : IntKind.i64.wrap (e.2.2.1 - 1) = e.2.2.1 - 1 := i64_in _ (by omega)
        refine fun _ => br_dec (fun hlt3 => ?_) fun hge2 => ?_
        · exact br_intro (fun ha => ⟨indep_fast (by decide +kernel), k + 1, hlt3, by omega, w_nat rfl (by omega), anyE_yes hlt3 ha⟩) fun ha => ⟨hlt3, hq2, indep_fast (by decide +kernel), k + 1, hlt3, by omega, w_nat rfl (by omega), anyE_no hlt3 ha⟩
        · rw [anyE_full (l := entD u) (by omega), hw, kind_at, kind_at]
          have hr : ∃ a', a' ≤ (entD t).length ∧ (entD t).length - a' < (entD t).length - q ∧ IntKind.i64.wrap (↑q + 1) = ↑a' := ⟨q + 1, hq2, by omega, w_nat rfl (by omega)⟩
          refine br_intro (fun g => ⟨?_, br_intro (fun g2 => ?_) fun _ => ⟨indep_fast (by decide +kernel), hr⟩⟩) fun g => br_intro (fun g => br_intro (fun g3 => ⟨hq2, ⟨by omega, by omega⟩, hq2, ⟨by omega, by omega⟩, indep_fast (by decide +kernel), fits_kind gt gu g g3, hr⟩) fun _ => ⟨indep_fast (by decide +kernel), hr⟩) fun _ => ⟨indep_fast (by decide +kernel), hr⟩
          · exact fits_stay gt gu hmem (by simpa using g)
          · rw [g2] at g
            cases g
    · intro m5
      have l1 := gt.len
      have l2 := gu.len
      refine ⟨⟨by omega, by omega⟩, ?_⟩
      refine ex_loopU (σ := Nat) (Dn [4, 21] 159 53) (fun a => [(21, .val (.int .i64) (a : Int))]) (fun a => a ≤ (deadD t u).length) (fun a => (deadD t u).length - a) 0 (Nat.zero_le _) (hc rfl hn) ?_
      rintro j6 v hv
      simp (implicitDefEqProofs := false) (decide := true) (maxSteps := 4000000) [ini, g_wbegun, wbegunC_eq, g_pmade, pmadeC_eq, g_ptree, ptreeC_eq, g_pgrown, pgrownC_eq, g_dentries, dentriesC_eq, g_dgone, dgoneC_eq, g_ddead, ddeadC_eq, g_dmade, dmadeC_eq]
      refine fun _ => br_dec (fun hlt => ?_) fun hge => ?_
      · have hv2 : v < (deadD t u).length := by omega
        obtain ⟨k, hx, hkl, hkd⟩ := dead_at hv2
        obtain ⟨d1, d2⟩ := dead_kinds hkl (by omega) hkd
        have hw : IntKind.i64.wrap (((k + 1 : Nat) : Int) - 1) = (k : Int) := by rw [i64_in _ (by omega)]; omega
        have hr : ∃ a', a' ≤ (deadD t u).length ∧ (deadD t u).length - a' < (deadD t u).length - v ∧ IntKind.i64.wrap (↑v + 1) = ↑a' := ⟨v + 1, hv2, by omega, w_nat rfl (by have := deadN_len t u t.length; have : (deadD t u).length ≤ t.length := this; omega)⟩
        have hless : ∀ h : 0 < v, (deadD t u)[(IntKind.i64.wrap ((v : Int) - 1)).toNat]?.getD 0 < ((k + 1 : Nat) : Int) := by
          intro h
          have := deadN_len t u t.length
          have h2 : (deadD t u).length ≤ t.length := this
          rw [i64_in _ (by omega), ← hx]
          have := dead_less (t := t) (u := u) (i := ((v : Int) - 1).toNat) (by omega)
          rwa [show ((v : Int) - 1).toNat + 1 = v by omega] at this
        have hvb : v ≤ 9 := by
          have := deadN_len t u t.length
          have h2 : (deadD t u).length ≤ t.length := this
          omega
        have hwv : 0 < v → IntKind.i64.wrap ((v : Int) - 1) = (v : Int) - 1 := fun h => i64_in _ (by omega)
        rw [hx, hw, Int.toNat_natCast]
        refine ⟨hv2, ⟨by omega, by omega⟩, d1, hv2, ⟨by omega, by omega⟩, hv2, ⟨by omega, by omega⟩, d2, br_dec (fun h => ⟨?_, ?_, hv2, indep_fast (by decide +kernel), hless h, hr⟩) fun _ => ⟨indep_fast (by decide +kernel), hr⟩⟩
        · rw [hwv h]; omega
        · rw [hwv h]; omega
      · refine ex_loopU (σ := Nat) (Dn [4, 22] 212 37) (fun a => [(22, .val (.int .i64) (a : Int))]) (fun a => a ≤ (deadD u t).length) (fun a => (deadD u t).length - a) 0 (Nat.zero_le _) (hc rfl hn) ?_
        rintro j7 w hw
        simp (implicitDefEqProofs := false) (decide := true) (maxSteps := 4000000) [ini, g_wbegun, wbegunC_eq, g_pmade, pmadeC_eq, g_ptree, ptreeC_eq, g_pgrown, pgrownC_eq, g_dentries, dentriesC_eq, g_dgone, dgoneC_eq, g_ddead, ddeadC_eq, g_dmade, dmadeC_eq]
        intro _ hv2
        obtain ⟨k, hx, hkl, hkd⟩ := dead_at hv2
        obtain ⟨d1, d2⟩ := dead_kinds hkl (by omega) hkd
        have hw : IntKind.i64.wrap (((k + 1 : Nat) : Int) - 1) = (k : Int) := by rw [i64_in _ (by omega)]; omega
        have hr : ∃ a', a' ≤ (deadD u t).length ∧ (deadD u t).length - a' < (deadD u t).length - w ∧ IntKind.i64.wrap (↑w + 1) = ↑a' := ⟨w + 1, hv2, by omega, w_nat rfl (by have := deadN_len u t u.length; have : (deadD u t).length ≤ u.length := this; omega)⟩
        rw [hx, hw, Int.toNat_natCast]
        exact ⟨hv2, ⟨by omega, by omega⟩, d1, hv2, ⟨by omega, by omega⟩, hv2, ⟨by omega, by omega⟩, indep_fast (by decide +kernel), fun e => d2 e.symm, hr⟩
end Go.Proofs.Ytahefjfkfmoplaa
