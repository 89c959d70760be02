import Derived.Test.YtlckajldmooefaaFrame7
set_option maxRecDepth 10000
set_option maxHeartbeats 2000000
set_option linter.unusedSimpArgs false
set_option linter.unusedVariables false
set_option pp.deepTerms.threshold 12
namespace Go.Proofs.Ytlckajldmooefaa
open Go.Tm Go.IntWalk Go.Crc
def Γall : Cons := cons [(8, fbegunC), (9, pmadeC), (10, pcmdC), (11, fputC), (15, ftakeC), (12, rfputC), (16, rftakeC), (13, mayC), (14, rmayC)]
theorem Γall_ok : ConsOK Try.prog Γall := consOK_cons fbegun_ok (consOK_cons pmade_ok (consOK_cons pcmd_ok (consOK_cons fput_ok (consOK_cons ftake_ok (consOK_cons rfput_ok (consOK_cons rftake_ok (consOK_cons may_ok (consOK_cons rmay_ok consOK_nil))))))))
theorem isB_set {l : List Int} (h : isB l) {v : Int} (hv : 0 ≤ v ∧ v < 256) {k : Nat} : isB (l.set k v) := fun x hx => by
  rcases List.mem_or_eq_of_mem_set hx with h1 | h1
  · exact h x h1
  · rw [h1]; exact hv
theorem lots_B {b F T : List Int} (bb : isB b) (hB : isB F) (hT : isB T) (k : Nat) : isB ((([b, F, T, F ++ b] : List (List Int))[k]?).getD []) := by
  match k with
  | 0 => exact bb
  | 1 => exact hB
  | 2 => exact hT
  | 3 => exact isB_append.2 ⟨hB, bb⟩
  | k + 4 => exact isB_nil
theorem frameAll_ex : LawEx tab Γall Try.f3 [CmdT, .slice (.int .u8), .int .i64, .int .u16, .slice (.int .u8), .int .u8, .int .u8] := by
  intro l h1 h2
  obtain ⟨wild, l1, rfl, e1⟩ := types_cons h1
  obtain ⟨picks, l2, rfl, e2⟩ := types_cons e1
  obtain ⟨seq, l3, rfl, e3⟩ := types_cons e2
  obtain ⟨near, l4, rfl, e4⟩ := types_cons e3
  obtain ⟨b, l5, rfl, e5⟩ := types_cons e4
  obtain ⟨at', l6, rfl, e6⟩ := types_cons e5
  obtain ⟨by', l7, rfl, e7⟩ := types_cons e6
  obtain rfl := types_nil e7
  clear h1 e1 e2 e3 e4 e5 e6 e7
  have g1 : Γall 8 = some fbegunC := rfl
  have g2 : Γall 9 = some pmadeC := rfl
  have g3 : Γall 10 = some pcmdC := rfl
  have g4 : Γall 11 = some fputC := rfl
  have g5 : Γall 15 = some ftakeC := rfl
  have g6 : Γall 12 = some rfputC := rfl
  have g7 : Γall 16 = some rftakeC := rfl
  have g8 : Γall 13 = some mayC := rfl
  have g9 : Γall 14 = some rmayC := rfl
  have bp : isB picks := okv_bytes (h2 ⟨_, picks⟩ (by simp))
  have bb : isB b := okv_bytes (h2 ⟨_, b⟩ (by simp))
  obtain ⟨nn, rfl, hs⟩ := okv_u16 (h2 ⟨_, near⟩ (by simp))
  obtain ⟨an, rfl, ho⟩ := okv_u8 (h2 ⟨_, at'⟩ (by simp))
  obtain ⟨yn, rfl, hcn⟩ := okv_u8 (h2 ⟨_, by'⟩ (by simp))
  clear h2
  have w1 : IntKind.i64.wrap (nn : Int) = (nn : Int) := w_nat rfl (by omega)
  have w2 : IntKind.i64.wrap (an : Int) = (an : Int) := w_nat rfl (by omega)
  simp only [Try.f3, Option.getD_some]
  simp (implicitDefEqProofs := false) (decide := true) (maxSteps := 1000000) [ini, g1, g2, g3, g4, g5, g6, g7, g8, g9, fbegunC_eq, pmadeC_eq, pcmdC_eq, fputC_eq, ftakeC_eq, rfputC_eq, rftakeC_eq, mayC_eq, rmayC_eq, w1, w2]
  intro m hw1 hw2 hw3 _ hp _ hb m1
  have hp0 : okP (picks, 0, ()) := ⟨bp, Int.le_refl 0, by simp only; omega, by simp only; omega⟩
  have hm := cmdP_may hp0
  obtain ⟨c, hcc⟩ : ∃ c, (cmdP (picks, 0, ())).1 = c := ⟨_, rfl⟩
  rw [hcc] at hm
  have hk : okF nn c = true := ok_of hm (by omega) (by omega)
  have hput : putF nn c = frameS nn c := if_pos hk
  have hlen := frame_len (seq := nn) (may_fine hm)
  have hfine := may_fine hm
  obtain ⟨f1, f2, f3, f4, f5, f6, f7, f8, f9⟩ := hfine.out
  have hB := isB_frameS nn c
  obtain ⟨F, hF⟩ : ∃ F, frameS nn c = F := ⟨_, rfl⟩
  rw [hF] at hput hB hlen
  have hl26 : 26 ≤ F.length := by omega
  have hl200 : F.length ≤ 800 := by omega
  refine ⟨hp0, fun m2 => ?_⟩
  refine ex_loopU (σ := Nat) [14, 17, 18, 19, 20, 21, 70, 71, 72, 73, 74, 75, 76, 77, 78, 79, 80, 81, 82, 83, 84, 85, 86, 87, 88, 89, 90, 91, 92, 93, 94, 95, 96, 97, 98, 99, 100, 101, 102, 103, 104, 105, 106, 107, 108, 109, 110, 111, 112, 113, 114, 115, 116, 117, 118, 119, 120, 121, 122, 123, 124, 125, 126] (fun s => [(17, .val (.int .i64) (s : Int))]) (fun s => s ≤ 4) (fun s => 4 - s) 0 (by simp) (hc rfl hn) ?_
  rintro j i hi
  simp (implicitDefEqProofs := false) (decide := true) (maxSteps := 1000000) [ini, g1, g2, g3, g4, g5, g6, g7, g8, g9, fbegunC_eq, pmadeC_eq, pcmdC_eq, fputC_eq, ftakeC_eq, rfputC_eq, rftakeC_eq, mayC_eq, rmayC_eq, w1, w2, hm, hcc, hput]
  have q1 : IntKind.i64.wrap ((i : Int) / 2) = ((i / 2 : Nat) : Int) := w_nat (by omega) (by omega)
  have q2 : Int.tmod (i : Int) 2 = ((i % 2 : Nat) : Int) := tmod_nat i 2
  have q3 : Int.tmod (an : Int) (F.length : Int) = ((an % F.length : Nat) : Int) := tmod_nat an F.length
  have hq := Nat.mod_lt an (show 0 < F.length by omega)
  have hne : ¬ F = [] := fun e => by rw [e, List.length_nil] at hl26; omega
  have hby := hcn
  rw [q1, q2, q3]
  refine br_dec (fun hlt => ?_) (fun hge m3 => ⟨by omega, fun _ => br_dec (fun _ _ => ⟨hne, ⟨by omega, by omega⟩, by omega, ⟨by omega, by omega⟩, by omega, fun m4 => ⟨by omega, by omega, ?_⟩⟩) (fun h => absurd (show 0 < F.length by omega) h)⟩)
  · refine ⟨⟨by omega, by omega⟩, by omega, ⟨by omega, by omega⟩, by omega, ⟨by omega, by omega⟩, by omega, ⟨by omega, by omega⟩, by omega, ⟨by omega, by omega⟩, by omega, ⟨by omega, by omega⟩, by omega, i + 1, by omega, by omega, w_nat rfl (by omega)⟩
  · refine ex_loopU (σ := Nat) [14, 26, 27, 28, 29, 30, 31, 32, 162, 163, 164, 165, 166, 167, 168, 169, 170, 171, 172, 173, 174, 175, 176, 177, 178, 179, 180, 181, 182, 183, 184, 185, 186, 187, 188, 189, 190, 191, 192, 193, 194, 195, 196, 197, 198, 199, 200] (fun s => [(26, .val (.int .i64) (s : Int))]) (fun s => s ≤ 4) (fun s => 4 - s) 0 (by simp) (hc rfl hn) ?_
    rintro j2 i2 hi2
    simp (implicitDefEqProofs := false) (decide := true) (maxSteps := 1000000) [ini, g1, g2, g3, g4, g5, g6, g7, g8, g9, fbegunC_eq, pmadeC_eq, pcmdC_eq, fputC_eq, ftakeC_eq, rfputC_eq, rftakeC_eq, mayC_eq, rmayC_eq, w1, w2, hm, hcc, hput]
    intro h
    have hx : ∀ T, isB T → ∀ k, isB ((([b, F, T, F ++ b] : List (List Int))[k]?).getD []) := fun T hT k => lots_B bb hB hT k
    have hx2 := hx (F.set ((an % F.length : Nat) : Int).toNat (Tm.bits .xor .u8 (F[((an % F.length : Nat) : Int).toNat]?.getD 0) (yn : Int))) (isB_set hB (u8_range _ _)) i2
    exact ⟨h, by omega, hx2, h, by omega, hx2, same_refl (t := CmdT) (by decide) _, i2 + 1, by omega, by omega, w_nat rfl (by omega)⟩
end Go.Proofs.Ytlckajldmooefaa
