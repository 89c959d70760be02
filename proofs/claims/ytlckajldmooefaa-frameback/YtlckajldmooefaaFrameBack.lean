import Derived.Test.YtlckajldmooefaaFrame7
set_option maxRecDepth 10000
set_option maxHeartbeats 1000000
set_option linter.unusedSimpArgs false
set_option linter.unusedVariables false
set_option pp.deepTerms.threshold 12
namespace Go.Proofs.Ytlckajldmooefaa
open Go.Tm Go.IntWalk Go.Crc
def Γback : Cons := cons [(8, fbegunC), (9, pmadeC), (10, pcmdC), (11, fputC), (15, ftakeC)]
theorem Γback_ok : ConsOK Try.prog Γback := consOK_cons fbegun_ok (consOK_cons pmade_ok (consOK_cons pcmd_ok (consOK_cons fput_ok (consOK_cons ftake_ok consOK_nil))))
theorem frameBack_ex : LawEx tab Γback Try.f4 [.slice (.int .u8), .int .u16, .int .u16, .slice (.int .u8), .int .u8] := by
  intro l h1 h2
  obtain ⟨picks, l1, rfl, e1⟩ := types_cons h1
  obtain ⟨seq, l2, rfl, e2⟩ := types_cons e1
  obtain ⟨other, l3, rfl, e3⟩ := types_cons e2
  obtain ⟨behind, l4, rfl, e4⟩ := types_cons e3
  obtain ⟨cut, l5, rfl, e5⟩ := types_cons e4
  obtain rfl := types_nil e5
  clear h1 e1 e2 e3 e4 e5
  have g1 : Γback 8 = some fbegunC := rfl
  have g2 : Γback 9 = some pmadeC := rfl
  have g3 : Γback 10 = some pcmdC := rfl
  have g4 : Γback 11 = some fputC := rfl
  have g5 : Γback 15 = some ftakeC := rfl
  have bp : isB picks := okv_bytes (h2 ⟨_, picks⟩ (by simp))
  have bb : isB behind := okv_bytes (h2 ⟨_, behind⟩ (by simp))
  obtain ⟨sn, rfl, hs⟩ := okv_u16 (h2 ⟨_, seq⟩ (by simp))
  obtain ⟨on, rfl, ho⟩ := okv_u16 (h2 ⟨_, other⟩ (by simp))
  obtain ⟨cn, rfl, hcn⟩ := okv_u8 (h2 ⟨_, cut⟩ (by simp))
  clear h2
  have w1 : IntKind.i64.wrap (sn : Int) = (sn : Int) := w_nat rfl (by omega)
  have w2 : IntKind.i64.wrap (on : Int) = (on : Int) := w_nat rfl (by omega)
  have w3 : IntKind.i64.wrap (cn : Int) = (cn : Int) := w_nat rfl (by omega)
  by_cases hp : picks.length ≤ 12
  case neg =>
    simp only [Try.f4, Option.getD_some]
    simp (implicitDefEqProofs := false) (decide := true) [ini, g1, g2, g3, g4, g5, fbegunC_eq, pmadeC_eq, pcmdC_eq, fputC_eq, ftakeC_eq, w1, w2, w3]
    intro _ h
    exact absurd h (by omega)
  have hp0 : okP (picks, 0, ()) := ⟨bp, Int.le_refl 0, by simp only; omega, by simp only; omega⟩
  have hm := cmdP_may hp0
  obtain ⟨c, hc⟩ : ∃ c, (cmdP (picks, 0, ())).1 = c := ⟨_, rfl⟩
  rw [hc] at hm
  have hk : okF sn c = true := ok_of hm (by omega) (by omega)
  have hput : putF sn c = frameS sn c := if_pos hk
  have hlen := frame_len (seq := sn) (may_fine hm)
  have hfine := may_fine hm
  obtain ⟨f1, f2, f3, f4, f5, f6, f7, f8, f9⟩ := hfine.out
  have t1 := takeF_put hk (rest := behind) bb
  have hB := isB_frameS sn c
  have hB2 : isB (frameS sn c ++ behind) := isB_append.2 ⟨hB, bb⟩
  have hB3 : ∀ k, isB ((frameS sn c).take k) := fun k => isB_take hB k
  obtain ⟨F, hF⟩ : ∃ F, frameS sn c = F := ⟨_, rfl⟩
  have t2 : takeF F on = if on = sn then (c, (F.length : Int), 0) else (noCmd, 0, 9) := by
    rw [← hF]
    split
    · rename_i e
      subst e
      have := takeF_put hk (rest := []) isB_nil
      rw [List.append_nil] at this
      exact this
    · rename_i e
      have := takeF_other hk (seq' := on) (by omega) (rest := []) isB_nil
      rw [List.append_nil] at this
      exact this
  have t3 : ∀ k, k < F.length → takeF (F.take k) sn = (noCmd, 0, 2) := fun k h => by
    rw [← hF] at h ⊢
    exact takeF_cut hk h
  rw [hF] at hput t1 hB hB2 hB3 hlen
  simp only [Try.f4, Option.getD_some]
  simp (implicitDefEqProofs := false) (decide := true) [ini, g1, g2, g3, g4, g5, fbegunC_eq, pmadeC_eq, pcmdC_eq, fputC_eq, ftakeC_eq, w1, w2, w3, hp0, hk, hput, hc, hB, hB2, hB3, t1, t2]
  intro _ _ _ hb20 hF1
  have tm : Int.tmod (cn : Int) (F.length : Int) = ((cn % F.length : Nat) : Int) := tmod_nat cn F.length
  have hlt : cn % F.length < F.length := Nat.mod_lt _ (by omega)
  have hne : ¬ F = [] := fun e => by rw [e, List.length_nil] at hlen; omega
  rw [tm, Int.toNat_natCast, t3 _ hlt]
  refine ⟨by omega, by omega, by omega, fun _ => ⟨hne, ?_⟩⟩
  refine ⟨⟨by omega, by omega⟩, same_refl (t := CmdT) (by decide) c, fun _ => ⟨?_, rfl⟩⟩
  by_cases e : on = sn
  · rw [if_pos e, e]; simp
  · rw [if_neg e]
    have : ¬ (sn : Int) = (on : Int) := fun h => e (Int.ofNat.inj h).symm
    rw [show ((sn : Int) == (on : Int)) = false from beq_eq_false_iff_ne.2 this]
    rfl
end Go.Proofs.Ytlckajldmooefaa
