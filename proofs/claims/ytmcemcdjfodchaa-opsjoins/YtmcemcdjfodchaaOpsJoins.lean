import Derived.Test.YtmcemcdjfodchaaOps10
set_option maxRecDepth 10000
set_option maxHeartbeats 4000000
set_option linter.unusedSimpArgs false
set_option linter.unusedVariables false
set_option pp.deepTerms.threshold 40
namespace Go.Proofs.Ytmcemcdjfodchaa
open Go.Tm Go.IntWalk
attribute [-instance] Go.Tm.instDecidableIndep
def nz : Nat → List Int
  | 0 => []
  | i + 1 => nz i ++ [21 * (i : Int)]
theorem nz_len : ∀ i, (nz i).length = i
  | 0 => rfl
  | i + 1 => by rw [nz, List.length_append, nz_len i]; rfl
theorem nz_B : ∀ {i : Nat}, i ≤ 9 → isB (nz i)
  | 0, _ => fun x hx => by cases hx
  | i + 1, h => fun x hx => by
    rw [nz] at hx
    rcases List.mem_append.1 hx with hx | hx
    · exact nz_B (by omega) x hx
    · rw [List.mem_singleton.1 hx]; omega
theorem nz_steps : ∀ (i : Nat) (r : List Int), stepsD (nz i ++ r) = stepsD r
  | 0, r => rfl
  | i + 1, r => by
    rw [nz, List.append_assoc, nz_steps i, List.singleton_append, stepsD_cons, if_pos]
    rw [show 21 * (i : Int) = ((21 * i : Nat) : Int) by omega]
    show (((21 * i) % 21 : Nat) : Int) = 0
    omega
theorem strOf_app (l m : List Int) : strOf (l ++ m) = strOf l ++ strOf m := by
  refine ByteArray.ext ?_
  simp [strOf]
def ΓopsJoins : Cons := cons [(9, obegunC), (13, ostepsC), (15, oPutC), (12, rsamesC)]
theorem ΓopsJoins_ok : ConsOK Try.prog ΓopsJoins := (consOK_cons obegun_ok (consOK_cons osteps_ok (consOK_cons oPut_ok (consOK_cons rsames_ok consOK_nil))))
theorem opsJoins_ex : LawEx tab ΓopsJoins Try.f5 [.slice (.int .u8), .slice (.int .u8), .int .u8] := by
  intro l h1 h2
  obtain ⟨a, l1, rfl, e1⟩ := types_cons h1
  obtain ⟨b, l2, rfl, e2⟩ := types_cons e1
  obtain ⟨n, l3, rfl, e3⟩ := types_cons e2
  obtain rfl := types_nil e3
  clear h1 e1 e2 e3
  have g_obegun : ΓopsJoins 9 = some obegunC := rfl
  have g_osteps : ΓopsJoins 13 = some ostepsC := rfl
  have g_oPut : ΓopsJoins 15 = some oPutC := rfl
  have g_rsames : ΓopsJoins 12 = some rsamesC := rfl
  have b_a : isB a := okv_bytes (h2 ⟨_, a⟩ (by simp))
  have b_b : isB b := okv_bytes (h2 ⟨_, b⟩ (by simp))
  obtain ⟨n_n, rfl, h_n⟩ := okv_u8 (h2 ⟨_, n⟩ (by simp))
  clear h2
  simp only [Try.f5, Option.getD_some]
  simp (implicitDefEqProofs := false) (decide := true) (maxSteps := 4000000) [ini, g_obegun, obegunC_eq, g_osteps, ostepsC_eq, g_oPut, oPutC_eq, g_rsames, rsamesC_eq]
  intro _ hl1 _ hl2 m
  have va := valid_take b_a
  have vb := valid_take b_b
  have sa : (stepsD a).length ≤ a.length := stepsD_len (Nat.le_refl _)
  have sb : (stepsD b).length ≤ b.length := stepsD_len (Nat.le_refl _)
  have pa := putL_len va
  have pb := putL_len vb
  have Ba := isB_putL (stepsD a)
  have Bb := isB_putL (stepsD b)
  have za := valid_sz va
  have zb := valid_sz vb
  have hl1 : a.length ≤ 100 := by omega
  have hl2 : b.length ≤ 100 := by omega
  have vall : ∀ s ∈ stepsD a ++ stepsD b, ValidS s := fun s hs => (List.mem_append.1 hs).elim (va s) (vb s)
  have zall := valid_sz vall
  have join : ∀ i, stepsD (putL (stepsD a) ++ nz i ++ putL (stepsD b)) = stepsD a ++ stepsD b := by
    intro i
    have := stepsD_putL vb []
    rw [List.append_nil, stepsD_nil, List.append_nil] at this
    rw [List.append_assoc, stepsD_putL va, nz_steps, this]
  have both : putL (stepsD a ++ stepsD b) = putL (stepsD a) ++ putL (stepsD b) := by
    unfold putL
    rw [List.flatMap_append]
  generalize stepsD a = L at *
  generalize stepsD b = M at *
  refine ⟨⟨b_a, by omega⟩, ⟨b_b, by omega⟩, fun m1 => ⟨by omega, by omega, fun m2 => ⟨⟨za, by omega⟩, ⟨zb, by omega⟩, fun m3 => ⟨by omega, ?_⟩⟩⟩⟩
  refine ex_loopU (σ := Nat × Nat × List Int) (Dn [12, 13] 40 13) (fun a => [(13, .val (.int .i64) (a.1 : Int)), (12, .own a.2.1 (.int .u8) a.2.2)]) (fun a => a.1 ≤ n_n % 9 ∧ a.2.2 = putL L ++ nz a.1) (fun a => n_n % 9 - a.1) (0, _, _) ⟨Nat.zero_le _, (List.append_nil _).symm⟩ (hc rfl (hc rfl hn)) ?_
  rintro j ⟨i, q, row⟩ ⟨hi, hrow⟩
  simp only at hi hrow
  simp (implicitDefEqProofs := false) (decide := true) (maxSteps := 4000000) [ini, g_obegun, obegunC_eq, g_osteps, ostepsC_eq, g_oPut, oPutC_eq, g_rsames, rsamesC_eq]
  have e1 : IntKind.i64.wrap ((n_n : Int).tmod 9) = ((n_n % 9 : Nat) : Int) := w_nat rfl (by omega)
  have e2 : IntKind.u8.wrap (IntKind.i64.wrap (21 * (i : Int))) = 21 * (i : Int) := by
    rw [w_nat (z := 21 * (i : Int)) (n := 21 * i) (by omega) (by omega), IntKind.wrap_u8]
    omega
  have hlen : row.length = (putL L).length + i := by rw [hrow, List.length_append, nz_len]
  rw [e1, e2]
  refine br_dec (fun hlt m4 => ⟨by omega, i + 1, _, row ++ [21 * (i : Int)], ⟨by omega, ?_⟩, by omega, w_nat rfl (by omega), rfl, rfl⟩) fun hge => ?_
  · rw [hrow, List.append_assoc]; rfl
  · have hi9 : i ≤ 9 := by omega
    have hB : isB (row ++ putL M) := fun x hx => by
      rw [hrow] at hx
      rcases List.mem_append.1 hx with hx | hx
      · rcases List.mem_append.1 hx with hx | hx
        · exact Ba x hx
        · exact nz_B hi9 x hx
      · exact Bb x hx
    refine ⟨by omega, ⟨hB, by omega⟩, sameSs_yes (by rw [hrow]; exact join i), ⟨zall, by omega⟩, by rw [size_strOf, size_strOf]; omega, indep_fast (by decide +kernel), ?_⟩
    rw [both, strOf_app]
end Go.Proofs.Ytmcemcdjfodchaa
