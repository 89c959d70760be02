import Derived.Test.YtcopoofbicgjbaaDiskQ
set_option maxRecDepth 100000
set_option maxHeartbeats 4000000
set_option linter.unusedSimpArgs false
set_option linter.unusedVariables false
set_option pp.deepTerms.threshold 30
namespace Go.Proofs.Ytcopoofbicgjbaa
open Go.Tm Go.IntWalk
def ΓdiskArms : Cons := cons [(8, dbegunC), (9, dnewC), (17, dwriteC), (15, dreadC), (13, dcrashC), (11, dflushC), (19, kblockC)]
theorem ΓdiskArms_ok : ConsOK Try.prog ΓdiskArms := (consOK_cons dbegun_ok (consOK_cons dnew_ok (consOK_cons dwrite_ok (consOK_cons dread_ok (consOK_cons dcrash_ok (consOK_cons dflush_ok (consOK_cons kblock_ok consOK_nil)))))))
theorem diskArms_ex : LawEx tab ΓdiskArms Try.f5 [.slice (.arr 2 (.int .u8)), .int .u8] := by
  intro l h1 h2
  obtain ⟨l, l1, rfl, e1⟩ := types_cons h1
  obtain ⟨arm, l2, rfl, e2⟩ := types_cons e1
  obtain rfl := types_nil e2
  clear h1 e1 e2
  have g_dbegun : ΓdiskArms 8 = some dbegunC := rfl
  have g_dnew : ΓdiskArms 9 = some dnewC := rfl
  have g_dwrite : ΓdiskArms 17 = some dwriteC := rfl
  have g_dread : ΓdiskArms 15 = some dreadC := rfl
  have g_dcrash : ΓdiskArms 13 = some dcrashC := rfl
  have g_dflush : ΓdiskArms 11 = some dflushC := rfl
  have g_kblock : ΓdiskArms 19 = some kblockC := rfl
  have v_l : okv (.slice (.arr 2 (.int .u8))) l := h2 ⟨_, l⟩ (by simp)
  obtain ⟨n_arm, rfl, h_arm⟩ := okv_u8 (h2 ⟨_, arm⟩ (by simp))
  clear h2
  simp only [Try.f5, Option.getD_some]
  simp (implicitDefEqProofs := false) (decide := true) (maxSteps := 4000000) [ini, g_dbegun, dbegunC_eq, g_dnew, dnewC_eq, g_dwrite, dwriteC_eq, g_dread, dreadC_eq, g_dcrash, dcrashC_eq, g_dflush, dflushC_eq, g_kblock, kblockC_eq]
  intro _ hl0 m
  have hl1 : List.length l ≤ 20 := Int.ofNat_le.1 hl0
  clear hl0
  obtain ⟨A, hA⟩ : ∃ A, A = n_arm % 12 := ⟨_, rfl⟩
  have hA12 : A < 12 := by rw [hA]; exact Nat.mod_lt _ (by decide)
  have wA : IntKind.i64.wrap (Int.tmod (n_arm : Int) 12) = (A : Int) := by rw [hA]; exact tmod_nat n_arm 12 h_arm (by decide)
  have wA1 : IntKind.i64.wrap (1 + (A : Int)) = ((A + 1 : Nat) : Int) := w_nat (by omega) (by omega)
  rw [wA, wA1]
  refine ex_loopU (σ := Nat × Nat) [4, 6, 7, 8, 9, 10, 11, 12, 24, 25, 26, 27, 28, 29, 30, 31, 32, 33, 34, 35, 36, 37, 38, 39, 40, 41, 42, 43, 44, 45, 46, 47, 48, 49, 50, 51, 52, 53, 54, 55, 56, 57, 58, 59, 60, 61, 62, 63, 64, 65, 66, 67, 68, 69, 70, 71, 72, 73, 74, 75, 76, 77, 78, 79, 80, 81, 82, 83, 84, 85, 86, 87, 88, 89, 90, 91, 92, 93, 94, 95, 96, 97, 5] (fun a => [(6, .val (.int .i64) (a.1 : Int)), (5, .obj a.2 DkT (armD l A a.1))]) (fun a => a.1 ≤ l.length) (fun a => l.length - a.1) (0, _) (Nat.zero_le _) (hc rfl (hc rfl hn)) ?_
  rintro j ⟨i, q⟩ hi
  obtain ⟨d1, d2, d3, d4⟩ := armD_at l A i
  simp (implicitDefEqProofs := false) (decide := true) (maxSteps := 4000000) [ini, g_dbegun, dbegunC_eq, g_dnew, dnewC_eq, g_dwrite, dwriteC_eq, g_dread, dreadC_eq, g_dcrash, dcrashC_eq, g_dflush, dflushC_eq, g_kblock, kblockC_eq]
  intro _ hlt
  obtain ⟨e0, f0⟩ := bN_at v_l hlt [0, 0] 0
  obtain ⟨e1, f1⟩ := bN_at v_l hlt [0, 0] 1
  have t0 : IntKind.i64.wrap (Int.tmod ((bN l i 0 : Nat) : Int) 5) = ((bN l i 0 % 5 : Nat) : Int) := tmod_nat _ 5 f0 (by decide)
  rw [e0, e1, wA, t0, Int.toNat_natCast]
  have w1 := armD_ok l A i
  have w2 : (writeK (armD l A i) ((bN l i 0 % 5 : Nat) : Int) (blockK (bN l i 1))).1 = armD l A (i + 1) := rfl
  rw [w1, w2]
  obtain ⟨q1, q2, q3, q4⟩ := armD_at l A (i + 1)
  refine ⟨hlt, ⟨by omega, by omega⟩, armD_okD l hA12 i, ?_, ?_, fun _ => ⟨?_, armD_okD l hA12 _, ?_, ?_, i + 1, by omega, by omega, w_nat rfl (by omega), rfl⟩⟩
  · rw [Bool.eq_iff_iff, decide_eq_true_iff, decide_eq_true_iff]; omega
  · rw [q4, Bool.eq_iff_iff, decide_eq_true_iff, decide_eq_true_iff]; omega
  · rw [q2]
    have e : (if (A : Int) < (i : Int) then (A : Int) else (i : Int)) + 1 = ((min (i + 1) (A + 1) : Nat) : Int) := by split <;> omega
    rw [e]
    exact (w_nat rfl (by omega)).symm
  · rw [flush_ok]; exact not_ne _
  · rw [show (0 : Int) = ((0 : Nat) : Int) from rfl, read_ok _ _ (by rw [q1, newK_five]; decide)]; exact not_ne _
end Go.Proofs.Ytcopoofbicgjbaa
