import Derived.Test.YtmcemcdjfodchaaOps10
set_option maxRecDepth 10000
set_option maxHeartbeats 4000000
set_option linter.unusedSimpArgs false
set_option linter.unusedVariables false
set_option pp.deepTerms.threshold 40
namespace Go.Proofs.Ytmcemcdjfodchaa
open Go.Tm Go.IntWalk
attribute [-instance] Go.Tm.instDecidableIndep
def ΓopsBack : Cons := cons [(9, obegunC), (13, ostepsC), (15, oPutC), (12, rsamesC)]
theorem ΓopsBack_ok : ConsOK Try.prog ΓopsBack := (consOK_cons obegun_ok (consOK_cons osteps_ok (consOK_cons oPut_ok (consOK_cons rsames_ok consOK_nil))))
theorem opsBack_ex : LawEx tab ΓopsBack Try.f4 [.slice (.int .u8), .int .u16] := by
  intro l h1 h2
  obtain ⟨b, l1, rfl, e1⟩ := types_cons h1
  obtain ⟨c, l2, rfl, e2⟩ := types_cons e1
  obtain rfl := types_nil e2
  clear h1 e1 e2
  have g_obegun : ΓopsBack 9 = some obegunC := rfl
  have g_osteps : ΓopsBack 13 = some ostepsC := rfl
  have g_oPut : ΓopsBack 15 = some oPutC := rfl
  have g_rsames : ΓopsBack 12 = some rsamesC := rfl
  have b_b : isB b := okv_bytes (h2 ⟨_, b⟩ (by simp))
  obtain ⟨n_c, rfl, h_c⟩ := okv_u16 (h2 ⟨_, c⟩ (by simp))
  clear h2
  simp only [Try.f4, Option.getD_some]
  simp (implicitDefEqProofs := false) (decide := true) (maxSteps := 4000000) [ini, g_obegun, obegunC_eq, g_osteps, ostepsC_eq, g_oPut, oPutC_eq, g_rsames, rsamesC_eq]
  intro _ hl
  have hv := valid_take b_b
  have hsl : (stepsD b).length ≤ b.length := stepsD_len (Nat.le_refl _)
  have hl : b.length ≤ 200 := by omega
  have hpl := putL_len hv
  have hB := isB_putL (stepsD b)
  have hback : stepsD (putL (stepsD b)) = stepsD b := by
    have := stepsD_putL hv []
    rwa [List.append_nil, stepsD_nil, List.append_nil] at this
  have hcut := @cut_row (stepsD b) hv
  have hnil := putL_nil hv
  have hsz := valid_sz hv
  generalize stepsD b = L at *
  generalize putL L = C at *
  refine ⟨⟨b_b, by omega⟩, ⟨hsz, by omega⟩, ⟨hB, by omega⟩, sameSs_yes hback, fun _ => br_intro (fun h0 _ => hnil (List.eq_nil_of_length_eq_zero (by have := eq_of_beq h0; omega))) fun h0 _ => ?_⟩
  have hne : ¬ C = [] := fun e => by rw [e] at h0; simp at h0
  have hpos : 0 < C.length := List.length_pos_iff.2 hne
  have hw : IntKind.i64.wrap (n_c : Int) = (n_c : Int) := w_nat rfl (by omega)
  have hm : (n_c : Int).tmod (C.length : Int) = ((n_c % C.length : Nat) : Int) := rfl
  have hlt := Nat.mod_lt n_c hpos
  rw [hw, hm, Int.toNat_natCast]
  obtain ⟨j, hj, e⟩ := hcut hlt
  refine ⟨hne, ⟨by omega, by omega⟩, ⟨fun x hx => hB x (List.mem_of_mem_take hx), by omega⟩, ?_⟩
  rw [e]
  refine fun _ _ => ⟨by rw [List.length_take]; omega, fun _ => ⟨by rw [List.length_take]; omega, sameSs_yes ?_⟩⟩
  rw [List.length_take, Nat.min_eq_left (by omega)]
end Go.Proofs.Ytmcemcdjfodchaa
