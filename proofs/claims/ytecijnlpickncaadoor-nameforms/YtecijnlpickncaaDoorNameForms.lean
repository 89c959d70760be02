import Derived.Test.YtecijnlpickncaaDoorName3
set_option maxRecDepth 10000
set_option maxHeartbeats 4000000
set_option linter.unusedSimpArgs false
set_option linter.unusedVariables false
set_option pp.deepTerms.threshold 30
namespace Go.Proofs.YtecijnlpickncaaDoor
open Go.Tm Go.IntWalk
attribute [-instance] Go.Tm.instDecidableIndep
def ΓnameForms : Cons := cons [(7, wbegunC), (10, npartsC), (13, nmayC), (15, downC)]
theorem ΓnameForms_ok : ConsOK Tryd.prog ΓnameForms := (consOK_cons wbegun_ok (consOK_cons nparts_ok (consOK_cons nmay_ok (consOK_cons down_ok consOK_nil))))
theorem nameForms_ex : LawEx tab ΓnameForms Tryd.f5 [] := by
  intro l h1 h2
  obtain rfl := types_nil h1
  clear h1
  have g_wbegun : ΓnameForms 7 = some wbegunC := rfl
  have g_nparts : ΓnameForms 10 = some npartsC := rfl
  have g_nmay : ΓnameForms 13 = some nmayC := rfl
  have g_down : ΓnameForms 15 = some downC := rfl
  clear h2
  simp only [Tryd.f5, Option.getD_some]
  simp (implicitDefEqProofs := false) (decide := true) (maxSteps := 4000000) [ini, g_wbegun, wbegunC_eq, g_nparts, npartsC_eq, g_nmay, nmayC_eq, g_down, downC_eq]
  have hF : ∀ k, k < 6 → (([⟨#[97]⟩, ⟨#[33]⟩, ⟨#[97, 98, 99, 100, 101, 102]⟩, ⟨#[97, 126]⟩, ⟨#[46]⟩, ⟨#[46, 46]⟩] : List ByteArray)[k]?.getD ⟨#[]⟩).size ≤ 9223372036854775807 ∧
      mayN (([⟨#[97]⟩, ⟨#[33]⟩, ⟨#[97, 98, 99, 100, 101, 102]⟩, ⟨#[97, 126]⟩, ⟨#[46]⟩, ⟨#[46, 46]⟩] : List ByteArray)[k]?.getD ⟨#[]⟩) = true ∧
      ownS (([⟨#[97]⟩, ⟨#[33]⟩, ⟨#[97, 98, 99, 100, 101, 102]⟩, ⟨#[97, 126]⟩, ⟨#[46]⟩, ⟨#[46, 46]⟩] : List ByteArray)[k]?.getD ⟨#[]⟩) = true := by decide +kernel
  have hB : ∀ k, k < 9 → (([⟨#[]⟩, ⟨#[97, 98, 99, 100, 101, 102, 103]⟩, ⟨#[97, 47, 98]⟩, ⟨#[32]⟩, ⟨#[97, 32, 98]⟩, ⟨#[127]⟩, ⟨#[31]⟩, ⟨#[195, 169]⟩, ⟨#[126, 97]⟩] : List ByteArray)[k]?.getD ⟨#[]⟩).size ≤ 9223372036854775807 ∧ mayN (([⟨#[]⟩, ⟨#[97, 98, 99, 100, 101, 102, 103]⟩, ⟨#[97, 47, 98]⟩, ⟨#[32]⟩, ⟨#[97, 32, 98]⟩, ⟨#[127]⟩, ⟨#[31]⟩, ⟨#[195, 169]⟩, ⟨#[126, 97]⟩] : List ByteArray)[k]?.getD ⟨#[]⟩) = false ∧ ownS (([⟨#[]⟩, ⟨#[97, 98, 99, 100, 101, 102, 103]⟩, ⟨#[97, 47, 98]⟩, ⟨#[32]⟩, ⟨#[97, 32, 98]⟩, ⟨#[127]⟩, ⟨#[31]⟩, ⟨#[195, 169]⟩, ⟨#[126, 97]⟩] : List ByteArray)[k]?.getD ⟨#[]⟩) = ((([⟨#[]⟩, ⟨#[97, 98, 99, 100, 101, 102, 103]⟩, ⟨#[97, 47, 98]⟩, ⟨#[32]⟩, ⟨#[97, 32, 98]⟩, ⟨#[127]⟩, ⟨#[31]⟩, ⟨#[195, 169]⟩, ⟨#[126, 97]⟩] : List ByteArray)[k]?.getD ⟨#[]⟩).toList == [126, 97]) := by decide +kernel
  have hC : ∀ k, k < 9 → (([⟨#[]⟩, ⟨#[97]⟩, ⟨#[47, 47]⟩, ⟨#[47, 97, 47]⟩, ⟨#[47, 47, 97]⟩, ⟨#[47, 97, 47, 47, 98]⟩, ⟨#[47, 32]⟩, ⟨#[47, 97, 47, 98, 47, 99, 47, 100, 47, 101, 47, 102, 47, 103, 47, 104, 47, 105]⟩, ⟨#[47, 116, 111, 111, 108, 111, 110, 103]⟩] : List ByteArray)[k]?.getD ⟨#[]⟩).size ≤ 1000000000 ∧ (partsS (([⟨#[]⟩, ⟨#[97]⟩, ⟨#[47, 47]⟩, ⟨#[47, 97, 47]⟩, ⟨#[47, 47, 97]⟩, ⟨#[47, 97, 47, 47, 98]⟩, ⟨#[47, 32]⟩, ⟨#[47, 97, 47, 98, 47, 99, 47, 100, 47, 101, 47, 102, 47, 103, 47, 104, 47, 105]⟩, ⟨#[47, 116, 111, 111, 108, 111, 110, 103]⟩] : List ByteArray)[k]?.getD ⟨#[]⟩) true).2 = false := by decide +kernel
  intro m m1
  refine ex_loopU (σ := Nat) (Dn [0, 3] 17 20) (fun a => [(3, .val (.int .i64) (a : Int))]) (fun a => a ≤ 6) (fun a => 6 - a) 0 (Nat.zero_le _) (hc rfl hn) ?_
  rintro j i hi
  simp (implicitDefEqProofs := false) (decide := true) (maxSteps := 4000000) [ini, g_wbegun, wbegunC_eq, g_nparts, npartsC_eq, g_nmay, nmayC_eq, g_down, downC_eq]
  refine br_dec (fun hlt => ?_) fun hge => ?_
  · have h6 : i < 6 := by omega
    obtain ⟨f1, f2, f3⟩ := hF i h6
    exact ⟨hlt, h6, f1, f2, hlt, h6, f1, f3, i + 1, h6, by omega, w_nat rfl (by omega)⟩
  · refine ex_loopU (σ := Nat) (Dn [0, 4] 37 24) (fun a => [(4, .val (.int .i64) (a : Int))]) (fun a => a ≤ 9) (fun a => 9 - a) 0 (Nat.zero_le _) (hc rfl hn) ?_
    rintro j2 k hk
    simp (implicitDefEqProofs := false) (decide := true) (maxSteps := 4000000) [ini, g_wbegun, wbegunC_eq, g_nparts, npartsC_eq, g_nmay, nmayC_eq, g_down, downC_eq]
    refine br_dec (fun hlt => ?_) fun hge => ?_
    · have h6 : k < 9 := by omega
      obtain ⟨f1, f2, f3⟩ := hB k h6
      exact ⟨hlt, h6, f1, f2, hlt, h6, f1, hlt, h6, indep_fast (by decide +kernel), f3, k + 1, h6, by omega, w_nat rfl (by omega)⟩
    · refine fun m2 => ?_
      refine ex_loopU (σ := Nat) (Dn [0, 6, 7, 8] 62 15) (fun a => [(6, .val (.int .i64) (a : Int))]) (fun a => a ≤ 9) (fun a => 9 - a) 0 (Nat.zero_le _) (hc rfl hn) ?_
      rintro j3 k3 hk3
      simp (implicitDefEqProofs := false) (decide := true) (maxSteps := 4000000) [ini, g_wbegun, wbegunC_eq, g_nparts, npartsC_eq, g_nmay, nmayC_eq, g_down, downC_eq]
      refine fun hlt => ?_
      have h6 : k3 < 9 := by omega
      obtain ⟨f1, f2⟩ := hC k3 h6
      exact ⟨hlt, h6, f1, f2, k3 + 1, h6, by omega, w_nat rfl (by omega)⟩
end Go.Proofs.YtecijnlpickncaaDoor
