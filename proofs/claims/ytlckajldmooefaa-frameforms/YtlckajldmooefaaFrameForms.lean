import Derived.Test.YtlckajldmooefaaFrame7
set_option maxRecDepth 10000
set_option maxHeartbeats 2000000
set_option linter.unusedSimpArgs false
set_option linter.unusedVariables false
set_option pp.deepTerms.threshold 12
namespace Go.Proofs.Ytlckajldmooefaa
open Go.Tm Go.IntWalk Go.Crc
def longT : ByteArray := strOf (List.replicate 56 0)
theorem longT_len : (longT).size = 56 := by decide +kernel
def goodL : List Cmd := [(1, 0, 0, 0, 0, 0, no, no, no, ()), (1, 5, 6, 0, 0, 0, no, no, no, ()), (2, 0, 0, 9, 2, 0, no, ⟨#[47, 97]⟩, no, ()), (3, 0, 0, 0, 0, 0, longT, longT, no, ()), (4, 0, 0, 0, 0, 0, no, no, no, ()), (5, 0, 0, 0, 0, 0, ⟨#[120]⟩, no, no, ()),
  (6, 0, 0, 0, 0, 3, ⟨#[47, 97]⟩, no, longT.extract 0 40, ()), (7, 0, 0, 0, 0, 7, no, no, no, ()), (8, 0, 0, 0, 255, 0, no, no, no, ()), (9, 0, 0, 0, 0, 1073741824, no, no, no, ())]
def badL : List Cmd := [(0, 0, 0, 0, 0, 0, no, no, no, ()), (10, 0, 0, 0, 0, 0, no, no, no, ()), (1, 0, 0, 0, 0, 1, no, no, no, ()), (2, 0, 0, 10, 0, 0, no, no, no, ()), (2, 0, 0, 0, 0, 0, ⟨#[47, 97]⟩, no, no, ()), (3, 0, 0, 0, 0, 0, longT ++ ⟨#[120]⟩, no, no, ()), (3, 0, 0, 0, 1, 0, no, no, no, ()),
  (5, 0, 0, 0, 0, 0, no, ⟨#[47, 97]⟩, no, ()), (6, 0, 0, 0, 0, 0, no, no, longT.extract 0 41, ()), (6, 0, 0, 0, 0, -1, no, no, no, ()), (7, 0, 0, 0, 0, 0, no, no, ⟨#[120]⟩, ()), (8, 0, 0, 0, 256, 0, no, no, no, ()), (8, 0, 0, 0, 0, 1, no, no, no, ()), (9, 0, 1, 0, 0, 0, no, no, no, ()), (9, 0, 0, 0, 0, 1073741825, no, no, no, ())]
theorem goodL_may : ∀ i < 10, mayS (goodL[i]?.getD ((0, 0, 0, 0, 0, 0, no, no, no, ()) : Cmd)) = true := by decide +kernel
theorem badL_may : ∀ i < 15, mayS (badL[i]?.getD ((0, 0, 0, 0, 0, 0, no, no, no, ()) : Cmd)) = false := by decide +kernel
def ΓframeForms : Cons := cons [(8, fbegunC), (11, fputC), (15, ftakeC), (13, mayC)]
theorem ΓframeForms_ok : ConsOK Try.prog ΓframeForms := (consOK_cons fbegun_ok (consOK_cons fput_ok (consOK_cons ftake_ok (consOK_cons may_ok consOK_nil))))
theorem frameForms_ex : LawEx tab ΓframeForms Try.f6 [] := by
  intro l h1 h2
  obtain rfl := types_nil h1
  clear h1
  have g_fbegun : ΓframeForms 8 = some fbegunC := rfl
  have g_fput : ΓframeForms 11 = some fputC := rfl
  have g_ftake : ΓframeForms 15 = some ftakeC := rfl
  have g_may : ΓframeForms 13 = some mayC := rfl
  clear h2
  simp only [Try.f6, Option.getD_some]
  simp (implicitDefEqProofs := false) (decide := true) (maxSteps := 4000000) [ini, g_fbegun, fbegunC_eq, g_fput, fputC_eq, g_ftake, ftakeC_eq, g_may, mayC_eq]
  intro m m1 m2
  refine ex_loopR 2 (t := CmdT) (v := goodL) rfl (σ := Nat) [0, 4, 5, 6, 7, 8, 9, 64, 65, 66, 67, 68, 69, 70, 71, 72, 73, 74, 75, 76, 77, 78, 79, 80, 81, 82, 83, 84, 85, 86, 87, 88, 89, 90, 91, 92, 93, 94, 95, 96, 97, 98, 99, 100, 101, 102, 103, 104, 105, 106, 107, 108, 109, 110, 111, 112, 113] (fun a => [(4, .val (.int .i64) (a : Int))]) (fun a => a ≤ 10) (fun a => 10 - a) 0 (by simp) (hc rfl hn) ?_
  rintro j i hi
  have hl10 : goodL.length = 10 := rfl
  simp (implicitDefEqProofs := false) (decide := true) (maxSteps := 4000000) [ini, g_fbegun, fbegunC_eq, g_fput, fputC_eq, g_ftake, ftakeC_eq, g_may, mayC_eq]
  refine br_dec (fun hlt => ?_) (fun hge => ?_)
  · have hlt : i < 10 := hlt
    have hm := goodL_may i hlt
    generalize goodL[i]?.getD ((0, 0, 0, 0, 0, 0, no, no, no, ()) : Cmd) = c at hm ⊢
    have hk : okF (i : Int) c = true := ok_of hm (by omega) (by omega)
    have hput : putF (i : Int) c = frameS (i : Int) c := if_pos hk
    have t1 := takeF_put hk (rest := []) isB_nil
    rw [List.append_nil] at t1
    have hB := isB_frameS (i : Int) c
    rw [hput, t1]
    exact ⟨hlt, hB, hlt, hm, hk, hlt, same_refl (t := CmdT) (by decide) c, rfl, rfl, i + 1, by omega, by omega, w_nat rfl (by omega)⟩
  · obtain rfl : i = 10 := by have : ¬ i < 10 := hge; omega
    refine ex_loopR 3 (t := CmdT) (v := badL) rfl (σ := Nat) [0, 10, 11, 12, 114, 115, 116, 117, 118, 119, 120, 121, 122, 123, 124, 125, 126, 127, 128, 129, 130, 131, 132, 133, 134, 135, 136, 137, 138, 139, 140, 141] (fun a => [(10, .val (.int .i64) (a : Int))]) (fun a => a ≤ 15) (fun a => 15 - a) 0 (by simp) (hc rfl hn) ?_
    rintro j2 i2 hi2
    have hl15 : badL.length = 15 := rfl
    simp (implicitDefEqProofs := false) (decide := true) (maxSteps := 4000000) [ini, g_fbegun, fbegunC_eq, g_fput, fputC_eq, g_ftake, ftakeC_eq, g_may, mayC_eq]
    refine br_dec (fun hlt => ?_) (fun hge2 => ?_)
    · have hlt : i2 < 15 := hlt
      have hm := badL_may i2 hlt
      generalize badL[i2]?.getD ((0, 0, 0, 0, 0, 0, no, no, no, ()) : Cmd) = c at hm ⊢
      have hk : okF (i2 : Int) c = false := by unfold okF; rw [hm]; rfl
      have hput : putF (i2 : Int) c = [] := if_neg (by rw [hk]; decide)
      exact ⟨hlt, hm, hk, fun _ => ⟨hput, i2 + 1, by omega, by omega, w_nat rfl (by omega)⟩⟩
    · have hk : okF 65535 ((5, 0, 0, 0, 0, 0, ⟨#[47, 97]⟩, no, no, ()) : Cmd) = true := by decide +kernel
      have hput : putF 65535 ((5, 0, 0, 0, 0, 0, ⟨#[47, 97]⟩, no, no, ()) : Cmd) = frameS 65535 (5, 0, 0, 0, 0, 0, ⟨#[47, 97]⟩, no, no, ()) := if_pos hk
      have hlen := frame_len (seq := 65535) (may_fine (ok_may hk).1)
      refine ⟨by decide +kernel, by decide +kernel, hk, fun _ => ⟨?_, ?_, ?_⟩⟩
      · rw [hput, hlen]; rfl
      · rw [hput, hlen]; decide
      · rw [hput, ba_toList]; decide +kernel
end Go.Proofs.Ytlckajldmooefaa
