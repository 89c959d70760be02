import Derived.Test.YtecijnlpickncaaDoorName3
set_option maxRecDepth 10000
set_option maxHeartbeats 4000000
set_option linter.unusedSimpArgs false
set_option linter.unusedVariables false
set_option pp.deepTerms.threshold 30
namespace Go.Proofs.YtecijnlpickncaaDoor
open Go.Tm Go.IntWalk
attribute [-instance] Go.Tm.instDecidableIndep
def ΓnameCut : Cons := cons [(7, wbegunC), (8, pmadeC), (9, ppathC), (10, npartsC), (17, npathC), (13, nmayC)]
theorem ΓnameCut_ok : ConsOK Tryd.prog ΓnameCut := (consOK_cons wbegun_ok (consOK_cons pmade_ok (consOK_cons ppath_ok (consOK_cons nparts_ok (consOK_cons npath_ok (consOK_cons nmay_ok consOK_nil))))))
theorem nameCut_ex : LawEx tab ΓnameCut Tryd.f6 [.int .u8, .slice (.int .u8)] := by
  intro l h1 h2
  obtain ⟨n, l1, rfl, e1⟩ := types_cons h1
  obtain ⟨l, l2, rfl, e2⟩ := types_cons e1
  obtain rfl := types_nil e2
  clear h1 e1 e2
  have g_wbegun : ΓnameCut 7 = some wbegunC := rfl
  have g_pmade : ΓnameCut 8 = some pmadeC := rfl
  have g_ppath : ΓnameCut 9 = some ppathC := rfl
  have g_nparts : ΓnameCut 10 = some npartsC := rfl
  have g_npath : ΓnameCut 17 = some npathC := rfl
  have g_nmay : ΓnameCut 13 = some nmayC := rfl
  obtain ⟨n_n, rfl, h_n⟩ := okv_u8 (h2 ⟨_, n⟩ (by simp))
  have b_l : isB l := okv_bytes (h2 ⟨_, l⟩ (by simp))
  clear h2
  simp only [Tryd.f6, Option.getD_some]
  simp (implicitDefEqProofs := false) (decide := true) (maxSteps := 4000000) [ini, g_wbegun, wbegunC_eq, g_pmade, pmadeC_eq, g_ppath, ppathC_eq, g_nparts, npartsC_eq, g_npath, npathC_eq, g_nmay, nmayC_eq]
  have hT : ∀ k, k < 4 → partOK false (([⟨#[97]⟩, ⟨#[98, 46, 99]⟩, ⟨#[120, 45, 121, 46, 122]⟩, ⟨#[49, 50, 51, 52, 53, 54]⟩] : List ByteArray)[k]?.getD ⟨#[]⟩) = true := by decide +kernel
  intro _ hl
  have hl' : l.length ≤ 8 := by omega
  refine ex_loopN 5 .str rfl (σ := Nat × Nat × List ByteArray) (Dn [5, 6] 21 17) (fun a => [(6, .val (.int .i64) (a.1 : Int)), (5, .own a.2.1 .str a.2.2)]) (fun a => a.1 ≤ l.length ∧ a.2.2.length = a.1 ∧ ∀ x ∈ a.2.2, partOK false x = true) (fun a => l.length - a.1) (fun m => ⟨(0, m, []), ⟨Nat.zero_le _, rfl, fun x hx => by cases hx⟩, hc rfl (hc rfl hn)⟩) ?_
  rintro m j ⟨i, q, row⟩ ⟨hi, hlen, hok⟩
  simp only at hi hlen hok
  simp (implicitDefEqProofs := false) (decide := true) (maxSteps := 4000000) [ini, g_wbegun, wbegunC_eq, g_pmade, pmadeC_eq, g_ppath, ppathC_eq, g_nparts, npartsC_eq, g_npath, npathC_eq, g_nmay, nmayC_eq]
  refine fun _ => br_dec (fun hlt m2 => ?_) fun hge m2 => ?_
  · have hlt2 : i < l.length := by omega
    have hx : 0 ≤ l[i]?.getD 0 := by
      rw [List.getElem?_eq_getElem hlt2]
      exact (b_l _ (List.getElem_mem hlt2)).1
    have k1 : 0 ≤ Int.tmod (l[i]?.getD 0) 4 := Int.tmod_nonneg _ hx
    have k2 : Int.tmod (l[i]?.getD 0) 4 < 4 := Int.tmod_lt_of_pos _ (by decide)
    refine ⟨hlt2, ⟨k1, k2⟩, k2, by omega, i + 1, _, _, ⟨hlt2, ?_, ?_⟩, by omega, w_nat rfl (by omega), rfl, rfl⟩
    · rw [List.length_append, List.length_singleton]; omega
    · intro x hx
      rcases List.mem_append.1 hx with hx | hx
      · exact hok x hx
      · rw [List.mem_singleton.1 hx]
        exact hT _ (by omega)
  have o1 : okP ([(n_n : Int)], 0, ()) := ⟨fun x hx => by rw [List.mem_singleton.1 hx]; omega, Int.le_refl 0, by simp, by simp⟩
  have hz := pathS_size (part_small hok)
  have hz2 := pathP_size ([(n_n : Int)], 0, ())
  refine ⟨o1, ⟨by omega, part_small hok⟩, ?_⟩
  have hL : ∀ x ∈ [(pathP ([(n_n : Int)], 0, ())).1, pathS row], x.size ≤ 100000 := by
    intro x hx
    simp only [List.mem_cons, List.not_mem_nil, or_false] at hx
    rcases hx with rfl | rfl <;> omega
  have hlen2 : [(pathP ([(n_n : Int)], 0, ())).1, pathS row].length = 2 := rfl
  generalize [(pathP ([(n_n : Int)], 0, ())).1, pathS row] = L at hL hlen2 ⊢
  refine ex_loopU (σ := Nat) (Dn [4, 8, 9, 10, 11, 12, 13, 14, 15] 45 63) (fun a => [(8, .val (.int .i64) (a : Int))]) (fun a => a ≤ L.length) (fun a => L.length - a) 0 (Nat.zero_le _) (hc rfl hn) ?_
  rintro j2 k hk
  simp (implicitDefEqProofs := false) (decide := true) (maxSteps := 4000000) [ini, g_wbegun, wbegunC_eq, g_pmade, pmadeC_eq, g_ppath, ppathC_eq, g_nparts, npartsC_eq, g_npath, npathC_eq, g_nmay, nmayC_eq, hlen2]
  refine fun hlt => ?_
  have hk2 : k < 2 := by omega
  have hx : (L[k]?.getD ⟨#[]⟩).size ≤ 100000 := by
    rw [List.getElem?_eq_getElem (by omega)]
    exact hL _ (List.getElem_mem _)
  have hpo := parts_ok (s := L[k]?.getD ⟨#[]⟩) (own := false)
  have hpm := @parts_more (L[k]?.getD ⟨#[]⟩)
  have hpp := @path_parts (L[k]?.getD ⟨#[]⟩) false
  refine ⟨hlt, hk2, by omega, hlt, hk2, by omega, br_intro (fun h => ⟨k + 1, by omega, by omega, w_nat rfl (by omega)⟩) fun h => ⟨?_, ⟨by omega, part_small hpo.2⟩, hlt, hk2, indep_fast (by decide +kernel), ?_, ?_⟩⟩
  · rw [hpm (by simpa using h)]; simpa using h
  · rw [hpp (by simpa using h)]
  generalize (partsS (L[k]?.getD ⟨#[]⟩) false).1 = P at hpo ⊢
  refine ex_loopU (σ := Nat) (Dn [4, 13, 14, 15] 78 30) (fun a => [(13, .val (.int .i64) (a : Int))]) (fun a => a ≤ P.length) (fun a => P.length - a) 0 (Nat.zero_le _) (hc rfl hn) ?_
  rintro j3 z hz3
  simp (implicitDefEqProofs := false) (decide := true) (maxSteps := 4000000) [ini, g_wbegun, wbegunC_eq, g_pmade, pmadeC_eq, g_ppath, ppathC_eq, g_nparts, npartsC_eq, g_npath, npathC_eq, g_nmay, nmayC_eq, hlen2]
  obtain ⟨hp8, hpk⟩ := hpo
  refine fun _ => br_dec (fun hz4 => ?_) fun _ => ⟨k + 1, by omega, by omega, w_nat rfl (by omega)⟩
  have ht : ∀ x ∈ P.take z, partOK false x = true := fun x hx => hpk x (List.mem_of_mem_take hx)
  have hz5 := pathS_size (part_small ht)
  have hlt3 : (P.take z).length = z := by rw [List.length_take]; omega
  have hpp2 := parts_path ht
  rw [if_pos (by omega)] at hpp2
  rw [hpp2]
  have hm : P[z]?.getD ⟨#[]⟩ ∈ P := by
    rw [List.getElem?_eq_getElem hz4]
    exact List.getElem_mem _
  have hown := hpk _ hm
  have hsm := part_small hpk _ hm
  unfold partOK at hown
  rw [Bool.and_eq_true] at hown
  exact ⟨by omega, ⟨by omega, part_small ht⟩, by omega, rfl, fun _ => ⟨by rw [hlt3], hz4, by omega, by simpa using hown.2, z + 1, hz4, by omega, w_nat rfl (by omega)⟩⟩
end Go.Proofs.YtecijnlpickncaaDoor
