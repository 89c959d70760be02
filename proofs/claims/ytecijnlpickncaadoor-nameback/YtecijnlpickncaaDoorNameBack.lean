import Derived.Test.YtecijnlpickncaaDoorName3
set_option maxRecDepth 10000
set_option maxHeartbeats 4000000
set_option linter.unusedSimpArgs false
set_option linter.unusedVariables false
set_option pp.deepTerms.threshold 30
namespace Go.Proofs.YtecijnlpickncaaDoor
open Go.Tm Go.IntWalk
attribute [-instance] Go.Tm.instDecidableIndep
def ΓnameBack : Cons := cons [(7, wbegunC), (10, npartsC), (17, npathC), (12, rsameT1C)]
theorem ΓnameBack_ok : ConsOK Tryd.prog ΓnameBack := (consOK_cons wbegun_ok (consOK_cons nparts_ok (consOK_cons npath_ok (consOK_cons rsameT1_ok consOK_nil))))
theorem nameBack_ex : LawEx tab ΓnameBack Tryd.f4 [.str, .slice (.int .u8)] := by
  intro l h1 h2
  obtain ⟨s, l1, rfl, e1⟩ := types_cons h1
  obtain ⟨l, l2, rfl, e2⟩ := types_cons e1
  obtain rfl := types_nil e2
  clear h1 e1 e2
  have g_wbegun : ΓnameBack 7 = some wbegunC := rfl
  have g_nparts : ΓnameBack 10 = some npartsC := rfl
  have g_npath : ΓnameBack 17 = some npathC := rfl
  have g_rsameT1 : ΓnameBack 12 = some rsameT1C := rfl
  have b_l : isB l := okv_bytes (h2 ⟨_, l⟩ (by simp))
  clear h2
  simp only [Tryd.f4, Option.getD_some]
  simp (implicitDefEqProofs := false) (decide := true) (maxSteps := 4000000) [ini, g_wbegun, wbegunC_eq, g_nparts, npartsC_eq, g_npath, npathC_eq, g_rsameT1, rsameT1C_eq]
  intro hs _ hl
  have hT : ∀ k, k < 5 → partOK true (([⟨#[97]⟩, ⟨#[98, 99]⟩, ⟨#[126, 49]⟩, ⟨#[120, 45, 121, 46, 122, 33]⟩, ⟨#[49, 50, 51, 52, 53, 54]⟩] : List ByteArray)[k]?.getD ⟨#[]⟩) = true := by decide +kernel
  have hp := parts_ok (s := s) (own := true)
  have hs' : s.size ≤ 80 := by omega
  have hl' : l.length ≤ 9 := by omega
  refine ⟨by omega, br_intro (fun h => ⟨⟨by omega, part_small hp.2⟩, by rw [path_parts h], ?_⟩) fun h => ?_⟩
  all_goals
    refine ex_loopN 7 .str rfl (σ := Nat × Nat × List ByteArray) (Dn [7, 8] 33 17) (fun a => [(8, .val (.int .i64) (a.1 : Int)), (7, .own a.2.1 .str a.2.2)]) (fun a => a.1 ≤ l.length ∧ a.2.2.length = a.1 ∧ ∀ x ∈ a.2.2, partOK true x = true) (fun a => l.length - a.1) (fun m => ⟨(0, m, []), ⟨Nat.zero_le _, rfl, fun x hx => by cases hx⟩, hc rfl (hc rfl hn)⟩) ?_
    rintro m j ⟨i, q, row⟩ ⟨hi, hlen, hok⟩
    simp only at hi hlen hok
    simp (implicitDefEqProofs := false) (decide := true) (maxSteps := 4000000) [ini, g_wbegun, wbegunC_eq, g_nparts, npartsC_eq, g_npath, npathC_eq, g_rsameT1, rsameT1C_eq]
    refine fun _ => br_dec (fun hlt m2 => ?_) fun hge => ?_
    · have hlt2 : i < l.length := by omega
      have hx : 0 ≤ l[i]?.getD 0 := by
        rw [List.getElem?_eq_getElem hlt2]
        exact (b_l _ (List.getElem_mem hlt2)).1
      have k1 : 0 ≤ Int.tmod (l[i]?.getD 0) 5 := Int.tmod_nonneg _ hx
      have k2 : Int.tmod (l[i]?.getD 0) 5 < 5 := Int.tmod_lt_of_pos _ (by decide)
      refine ⟨hlt2, ⟨k1, k2⟩, k2, by omega, i + 1, _, _, ⟨hlt2, ?_, ?_⟩, by omega, w_nat rfl (by omega), rfl, rfl⟩
      · rw [List.length_append, List.length_singleton]; omega
      · intro x hx
        rcases List.mem_append.1 hx with hx | hx
        · exact hok x hx
        · rw [List.mem_singleton.1 hx]
          exact hT _ (by omega)
    · have hz := pathS_size (part_small hok)
      have hpp := parts_path hok
      refine ⟨⟨by omega, part_small hok⟩, by omega, fun _ => ?_⟩
      rw [hpp]
      by_cases h8 : row.length ≤ 8
      · rw [if_pos h8, decide_eq_true (show ((row.length : Nat) : Int) ≤ 8 by omega)]
        exact ⟨rfl, fun _ => sameT_yes rfl⟩
      · rw [if_neg h8, decide_eq_false (show ¬ ((row.length : Nat) : Int) ≤ 8 by omega)]
        exact ⟨rfl, fun h => by cases h⟩
end Go.Proofs.YtecijnlpickncaaDoor
