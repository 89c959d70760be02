import Derived.Test.YtfjbfopomepnoaaDir9
set_option maxRecDepth 100000
set_option maxHeartbeats 2000000
set_option linter.unusedSimpArgs false
set_option linter.unusedVariables false
set_option pp.deepTerms.threshold 16
namespace Go.Proofs.Ytfjbfopomepnoaa
open Go.Tm Go.IntWalk
def manyN (i : Nat) : Ent := ((⟨#[110, 110, 110, 110, 110]⟩ : ByteArray) ++ strOf [((97 + i : Nat) : Int)], 1, ())
def ΓdirForms : Cons := cons [(7, dbegunC), (9, dputC), (11, dtakeC)]
theorem ΓdirForms_ok : ConsOK Try.prog ΓdirForms := (consOK_cons dbegun_ok (consOK_cons dput_ok (consOK_cons dtake_ok consOK_nil)))
theorem dirForms_ex : LawEx tab ΓdirForms Try.f5 [] := by
  intro l h1 h2
  obtain rfl := types_nil h1
  clear h1
  have g_dbegun : ΓdirForms 7 = some dbegunC := rfl
  have g_dput : ΓdirForms 9 = some dputC := rfl
  have g_dtake : ΓdirForms 11 = some dtakeC := rfl
  clear h2
  simp only [Try.f5, Option.getD_some]
  simp (implicitDefEqProofs := false) (decide := true) (maxSteps := 4000000) [ini, g_dbegun, dbegunC_eq, g_dput, dputC_eq, g_dtake, dtakeC_eq]
  intro m
  refine ex_loopU (σ := Nat) [0, 2, 3, 4, 38, 39, 40, 41, 42, 43, 44, 45, 46, 47, 48, 49, 50, 51, 52] (fun a => [(2, .val (.int .i64) (a : Int))]) (fun a => a ≤ 7) (fun a => 7 - a) 0 (Nat.zero_le _) (hc rfl hn) ?_
  rintro j i hi
  simp (implicitDefEqProofs := false) (decide := true) (maxSteps := 4000000) [ini, g_dbegun, dbegunC_eq, g_dput, dputC_eq, g_dtake, dtakeC_eq]
  have hlong : ∀ (L : List Ent), (L.all fun e => decide (e.1.size ≤ 4000000000)) = true → ∀ (n : ByteArray) (k : Int) (u : Unit), (n, k, u) ∈ L → n.size ≤ 4000000000 := fun L h n k u hm => by
    have := List.all_eq_true.1 h _ hm
    exact of_decide_eq_true this
  refine br_dec (fun hlt => ?_) fun _ m1 => ?_
  · have h7 : i < 7 := by omega
    rcases (by omega : i = 0 ∨ i = 1 ∨ i = 2 ∨ i = 3 ∨ i = 4 ∨ i = 5 ∨ i = 6) with rfl | rfl | rfl | rfl | rfl | rfl | rfl
    all_goals exact ⟨hlt, by decide, ⟨by decide +kernel, hlong _ (by decide +kernel)⟩, by decide +kernel, _, Nat.succ_le_of_lt (by decide : _ < 7), by decide, w_nat rfl (by decide)⟩
  refine ex_loopU (σ := Nat) [0, 6, 7, 8, 54, 55, 56, 57, 58, 59, 60, 61, 62, 63, 64, 65, 66, 67, 68] (fun a => [(6, .val (.int .i64) (a : Int))]) (fun a => a ≤ 7) (fun a => 7 - a) 0 (Nat.zero_le _) (hc rfl hn) ?_
  rintro j1 i1 hi1
  simp (implicitDefEqProofs := false) (decide := true) (maxSteps := 4000000) [ini, g_dbegun, dbegunC_eq, g_dput, dputC_eq, g_dtake, dtakeC_eq]
  refine br_dec (fun hlt => ?_) fun _ => ?_
  · have h7 : i1 < 7 := by omega
    rcases (by omega : i1 = 0 ∨ i1 = 1 ∨ i1 = 2 ∨ i1 = 3 ∨ i1 = 4 ∨ i1 = 5 ∨ i1 = 6) with rfl | rfl | rfl | rfl | rfl | rfl | rfl
    all_goals exact ⟨hlt, by decide, by decide +kernel, by decide +kernel, _, Nat.succ_le_of_lt (by decide : _ < 7), by decide, w_nat rfl (by decide)⟩
  refine ex_loopN 11 EntT rfl (σ := Nat × Nat) [11, 12, 73, 74, 75, 76, 77, 78, 79, 80, 81, 82, 83, 84, 85, 86] (fun a => [(12, .val (.int .i64) (a.1 : Int)), (11, .own a.2 EntT ((List.range a.1).map manyN))]) (fun a => a.1 ≤ 15) (fun a => 15 - a.1) (fun m => ⟨(0, m), Nat.zero_le _, hc rfl (hc rfl hn)⟩) ?_
  rintro m2 j2 ⟨i2, q⟩ hi2
  simp only at hi2
  simp (implicitDefEqProofs := false) (decide := true) (maxSteps := 4000000) [ini, g_dbegun, dbegunC_eq, g_dput, dputC_eq, g_dtake, dtakeC_eq]
  have s1 : ∀ z : Int, (strOf [z]).size = 1 := fun z => by rw [size_strOf]; rfl
  have hms : ∀ a, (manyN a).1.size = 6 := fun a => by
    show (_ ++ _ : ByteArray).size = 6
    rw [ByteArray.size_append, s1]; rfl
  refine br_dec (fun hlt => ?_) fun hge => ?_
  · have hlt : i2 < 15 := by omega
    have w1 : IntKind.i64.wrap (97 + (i2 : Int)) = ((97 + i2 : Nat) : Int) := w_nat (by omega) (by omega)
    have w2 : IntKind.u8.wrap ((97 + i2 : Nat) : Int) = ((97 + i2 : Nat) : Int) := by rw [wrap_u8_nat]; omega
    rw [w1, w2]
    refine ⟨by rw [s1]; decide, by omega, i2 + 1, hlt, by omega, w_nat rfl (by omega), ?_⟩
    rw [List.range_succ, List.map_append]
    rfl
  · obtain rfl : i2 = 15 := by omega
    refine ⟨⟨by decide, fun a _ => by rw [hms]; decide⟩, by decide, ⟨by decide, fun n k u h => ?_⟩, by decide +kernel, by decide +kernel, by decide +kernel⟩
    rcases h with ⟨a, _, e⟩ | ⟨e, _⟩
    · have := hms a
      rw [e] at this
      simp only at this
      omega
    · rw [e]; decide
end Go.Proofs.Ytfjbfopomepnoaa
