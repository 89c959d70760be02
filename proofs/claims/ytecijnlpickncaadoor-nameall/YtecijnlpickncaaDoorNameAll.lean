import Derived.Test.YtecijnlpickncaaDoorName3
set_option maxRecDepth 10000
set_option maxHeartbeats 4000000
set_option linter.unusedSimpArgs false
set_option linter.unusedVariables false
set_option pp.deepTerms.threshold 30
namespace Go.Proofs.YtecijnlpickncaaDoor
open Go.Tm Go.IntWalk
attribute [-instance] Go.Tm.instDecidableIndep
def ΓnameAll : Cons := cons [(7, wbegunC), (8, pmadeC), (9, ppathC), (10, npartsC), (11, rpartsC), (12, rsameT1C), (13, nmayC), (14, rmay6C), (15, downC), (16, rownC)]
theorem ΓnameAll_ok : ConsOK Tryd.prog ΓnameAll := (consOK_cons wbegun_ok (consOK_cons pmade_ok (consOK_cons ppath_ok (consOK_cons nparts_ok (consOK_cons rparts_ok (consOK_cons rsameT1_ok (consOK_cons nmay_ok (consOK_cons rmay6_ok (consOK_cons down_ok (consOK_cons rown_ok consOK_nil))))))))))
theorem nameAll_ex : LawEx tab ΓnameAll Tryd.f3 [.str, .slice (.int .u8), .int .u8] := by
  intro l h1 h2
  obtain ⟨s, l1, rfl, e1⟩ := types_cons h1
  obtain ⟨l, l2, rfl, e2⟩ := types_cons e1
  obtain ⟨own, l3, rfl, e3⟩ := types_cons e2
  obtain rfl := types_nil e3
  clear h1 e1 e2 e3
  have g_wbegun : ΓnameAll 7 = some wbegunC := rfl
  have g_pmade : ΓnameAll 8 = some pmadeC := rfl
  have g_ppath : ΓnameAll 9 = some ppathC := rfl
  have g_nparts : ΓnameAll 10 = some npartsC := rfl
  have g_rparts : ΓnameAll 11 = some rpartsC := rfl
  have g_rsameT1 : ΓnameAll 12 = some rsameT1C := rfl
  have g_nmay : ΓnameAll 13 = some nmayC := rfl
  have g_rmay6 : ΓnameAll 14 = some rmay6C := rfl
  have g_down : ΓnameAll 15 = some downC := rfl
  have g_rown : ΓnameAll 16 = some rownC := rfl
  have b_l : isB l := okv_bytes (h2 ⟨_, l⟩ (by simp))
  obtain ⟨n_own, rfl, h_own⟩ := okv_u8 (h2 ⟨_, own⟩ (by simp))
  clear h2
  simp only [Tryd.f3, Option.getD_some]
  simp (implicitDefEqProofs := false) (decide := true) (maxSteps := 4000000) [ini, g_wbegun, wbegunC_eq, g_pmade, pmadeC_eq, g_ppath, ppathC_eq, g_nparts, npartsC_eq, g_rparts, rpartsC_eq, g_rsameT1, rsameT1C_eq, g_nmay, nmayC_eq, g_rmay6, rmay6C_eq, g_down, downC_eq, g_rown, rownC_eq]
  intro hs _ hl m m1
  have o1 : okP (l, 0, ()) := ⟨b_l, Int.le_refl 0, by simp only; omega, by simp only; omega⟩
  have o2 : okP (pathP (l, 0, ())).2 := numP_ok o1 15
  have o3 : okP (pathP (pathP (l, 0, ())).2).2 := numP_ok o2 15
  have z1 := pathP_size (l, 0, ())
  have z2 := pathP_size (pathP (l, 0, ())).2
  have z3 := pathP_size (pathP (pathP (l, 0, ())).2).2
  have y1 : (⟨#[47]⟩ : ByteArray).size = 1 := rfl
  have y2 : (⟨#[47, 97]⟩ : ByteArray).size = 2 := rfl
  rw [y1, y2]
  have hs' : s.size ≤ 80 := by omega
  refine ⟨o1, o2, o3, by omega, by omega, by omega, by omega, by omega, ?_⟩
  have hL : ∀ x ∈ [s, (pathP (l, 0, ())).1, (pathP (pathP (l, 0, ())).2).1 ++ (pathP (pathP (pathP (l, 0, ())).2).2).1, ⟨#[47]⟩ ++ s, s ++ ⟨#[47]⟩, ⟨#[47]⟩ ++ s ++ ⟨#[47, 97]⟩], x.size ≤ 1000 := by
    intro x hx
    simp only [List.mem_cons, List.not_mem_nil, or_false] at hx
    rcases hx with rfl | rfl | rfl | rfl | rfl | rfl <;> first | omega | (simp only [ByteArray.size_append, y1, y2]; omega)
  have hlen : [s, (pathP (l, 0, ())).1, (pathP (pathP (l, 0, ())).2).1 ++ (pathP (pathP (pathP (l, 0, ())).2).2).1, ⟨#[47]⟩ ++ s, s ++ ⟨#[47]⟩, ⟨#[47]⟩ ++ s ++ ⟨#[47, 97]⟩].length = 6 := rfl
  generalize [s, (pathP (l, 0, ())).1, (pathP (pathP (l, 0, ())).2).1 ++ (pathP (pathP (pathP (l, 0, ())).2).2).1, ⟨#[47]⟩ ++ s, s ++ ⟨#[47]⟩, ⟨#[47]⟩ ++ s ++ ⟨#[47, 97]⟩] = L at hL hlen ⊢
  refine ex_loopU (σ := Nat) (Dn [6, 9, 10, 11, 12, 13] 42 63) (fun a => [(9, .val (.int .i64) (a : Int))]) (fun a => a ≤ L.length) (fun a => L.length - a) 0 (Nat.zero_le _) (hc rfl hn) ?_
  rintro j i hi
  simp (implicitDefEqProofs := false) (decide := true) (maxSteps := 4000000) [ini, g_wbegun, wbegunC_eq, g_pmade, pmadeC_eq, g_ppath, ppathC_eq, g_nparts, npartsC_eq, g_rparts, rpartsC_eq, g_rsameT1, rsameT1C_eq, g_nmay, nmayC_eq, g_rmay6, rmay6C_eq, g_down, downC_eq, g_rown, rownC_eq]
  refine fun _ hlt => ?_
  have hx : (L[i]?.getD ⟨#[]⟩).size ≤ 1000 := by
    rw [List.getElem?_eq_getElem hlt]
    exact hL _ (List.getElem_mem hlt)
  exact ⟨hlt, by omega, hlt, by omega, sameT_yes rfl, hlt, by omega, hlt, by omega, hlt, by omega, hlt, by omega, indep_fast (by decide +kernel), i + 1, hlt, by omega, w_nat rfl (by omega)⟩
end Go.Proofs.YtecijnlpickncaaDoor
