import Derived.Test.YtcopoofbicgjbaaDiskQ
import Derived.Test.YtcopoofbicgjbaaSeal
set_option maxRecDepth 100000
set_option maxHeartbeats 4000000
set_option linter.unusedSimpArgs false
set_option linter.unusedVariables false
set_option pp.deepTerms.threshold 30
namespace Go.Proofs.Ytcopoofbicgjbaa
open Go.Tm Go.IntWalk
def ΓdiskAll : Cons := cons [(8, dbegunC), (9, dnewC), (17, dwriteC), (15, dreadC), (13, dcrashC), (11, dflushC), (19, kblockC), (10, rnewC), (16, kreadC), (18, kwriteC), (12, kflushC), (14, kcrashC), (20, ksameC)]
theorem ΓdiskAll_ok : ConsOK Try.prog ΓdiskAll := (consOK_cons dbegun_ok (consOK_cons dnew_ok (consOK_cons dwrite_ok (consOK_cons dread_ok (consOK_cons dcrash_ok (consOK_cons dflush_ok (consOK_cons kblock_ok (consOK_cons rnew_ok (consOK_cons kread_ok (consOK_cons kwrite_ok (consOK_cons kflush_ok (consOK_cons kcrash_ok (consOK_cons ksame_ok consOK_nil)))))))))))))
theorem diskAll_ex : LawEx tab ΓdiskAll Try.f3 [.slice (.arr 3 (.int .u8)), .int .i64, .str, .slice .bool, .int .i64] := by
  intro l h1 h2
  obtain ⟨l, l1, rfl, e1⟩ := types_cons h1
  obtain ⟨wild, l2, rfl, e2⟩ := types_cons e1
  obtain ⟨s, l3, rfl, e3⟩ := types_cons e2
  obtain ⟨keep, l4, rfl, e4⟩ := types_cons e3
  obtain ⟨n, l5, rfl, e5⟩ := types_cons e4
  obtain rfl := types_nil e5
  clear h1 e1 e2 e3 e4 e5
  have g_dbegun : ΓdiskAll 8 = some dbegunC := rfl
  have g_dnew : ΓdiskAll 9 = some dnewC := rfl
  have g_dwrite : ΓdiskAll 17 = some dwriteC := rfl
  have g_dread : ΓdiskAll 15 = some dreadC := rfl
  have g_dcrash : ΓdiskAll 13 = some dcrashC := rfl
  have g_dflush : ΓdiskAll 11 = some dflushC := rfl
  have g_kblock : ΓdiskAll 19 = some kblockC := rfl
  have g_rnew : ΓdiskAll 10 = some rnewC := rfl
  have g_kread : ΓdiskAll 16 = some kreadC := rfl
  have g_kwrite : ΓdiskAll 18 = some kwriteC := rfl
  have g_kflush : ΓdiskAll 12 = some kflushC := rfl
  have g_kcrash : ΓdiskAll 14 = some kcrashC := rfl
  have g_ksame : ΓdiskAll 20 = some ksameC := rfl
  have v_l : okv (.slice (.arr 3 (.int .u8))) l := h2 ⟨_, l⟩ (by simp)
  have h_wild := okv_i64 (h2 ⟨_, wild⟩ (by simp))
  have h_n := okv_i64 (h2 ⟨_, n⟩ (by simp))
  clear h2
  simp only [Try.f3, Option.getD_some]
  simp (implicitDefEqProofs := false) (decide := true) (maxSteps := 4000000) [ini, g_dbegun, dbegunC_eq, g_dnew, dnewC_eq, g_dwrite, dwriteC_eq, g_dread, dreadC_eq, g_dcrash, dcrashC_eq, g_dflush, dflushC_eq, g_kblock, kblockC_eq, g_rnew, rnewC_eq, g_kread, kreadC_eq, g_kwrite, kwriteC_eq, g_kflush, kflushC_eq, g_kcrash, kcrashC_eq, g_ksame, ksameC_eq]
  intro _ hl0 hs0 _ hk0 m
  have hl1 : List.length l ≤ 30 := Int.ofNat_le.1 hl0
  refine ex_loopU (σ := Nat × Nat × Nat) [10, 13, 14, 15, 16, 17, 18, 19, 20, 21, 39, 40, 41, 42, 43, 44, 45, 46, 47, 48, 49, 50, 51, 52, 53, 54, 55, 56, 57, 58, 59, 60, 61, 62, 63, 64, 65, 66, 67, 68, 69, 70, 71, 72, 73, 74, 75, 76, 77, 78, 79, 80, 81, 82, 83, 84, 85, 86, 87, 88, 89, 90, 91, 92, 93, 94, 95, 96, 97, 98, 99, 100, 101, 102, 103, 104, 105, 106, 107, 108, 109, 110, 111, 112, 113, 114, 115, 116, 117, 118, 119, 120, 121, 122, 123, 124, 125, 126, 127, 128, 129, 130, 131, 132, 133, 134, 135, 136, 137, 138, 139, 140, 141, 142, 143, 144, 145, 146, 147, 148, 149, 150, 151, 152, 153, 154, 155, 156, 157, 158, 159, 160, 161, 162, 163, 164, 165, 166, 167, 168, 169, 170, 171, 172, 173, 174, 175, 176, 177, 178, 179, 180, 181, 182, 183, 184, 185, 186, 187, 188, 189, 190, 191, 192, 193, 11, 12] (fun a => [(13, .val (.int .i64) (a.1 : Int)), (11, .obj a.2.1 DkT (deedD l wild s a.1)), (12, .obj a.2.2 DkT (deedD l wild s a.1))]) (fun a => a.1 ≤ l.length) (fun a => l.length - a.1) (0, _, _) (Nat.zero_le _) (hc rfl (hc rfl (hc rfl hn))) ?_
  rintro j ⟨i, q1, q2⟩ hi
  have hfit := deedD_fit l wild s i
  have hok := fit_ok hfit (by have : i ≤ l.length := hi; omega)
  simp (implicitDefEqProofs := false) (decide := true) (maxSteps := 4000000) [ini, g_dbegun, dbegunC_eq, g_dnew, dnewC_eq, g_dwrite, dwriteC_eq, g_dread, dreadC_eq, g_dcrash, dcrashC_eq, g_dflush, dflushC_eq, g_kblock, kblockC_eq, g_rnew, rnewC_eq, g_kread, kreadC_eq, g_kwrite, kwriteC_eq, g_kflush, kflushC_eq, g_kcrash, kcrashC_eq, g_ksame, ksameC_eq]
  intro _
  refine br_dec (fun hlt => ?_) fun hge => ⟨hok, sameK_self _, fun _ => sameK_self _⟩
  obtain ⟨e0, f0⟩ := bN_at v_l hlt [0, 0, 0] 0
  obtain ⟨e1, f1⟩ := bN_at v_l hlt [0, 0, 0] 1
  obtain ⟨e2, f2⟩ := bN_at v_l hlt [0, 0, 0] 2
  have t0 : Int.tmod ((bN l i 0 : Nat) : Int) 8 = ((bN l i 0 % 8 : Nat) : Int) := rfl
  have ti : Int.tmod (i : Int) 8 = ((i % 8 : Nat) : Int) := rfl
  have t1 : IntKind.i64.wrap (Int.tmod ((bN l i 1 : Nat) : Int) 6) = ((bN l i 1 % 6 : Nat) : Int) := tmod_nat _ 6 f1 (by decide)
  have t2 : IntKind.i64.wrap (Int.tmod ((bN l i 2 : Nat) : Int) 6) = ((bN l i 2 % 6 : Nat) : Int) := tmod_nat _ 6 f2 (by decide)
  have t3 : IntKind.i64.wrap (((bN l i 1 % 6 : Nat) : Int) - 1) = ((bN l i 1 % 6 : Nat) : Int) - 1 := by rw [IntKind.wrap_i64]; omega
  have t4 : Int.tmod ((bN l i 1 : Nat) : Int) 2 = ((bN l i 1 % 2 : Nat) : Int) := rfl
  have t5 : Int.tmod ((bN l i 2 : Nat) : Int) 2 = ((bN l i 2 % 2 : Nat) : Int) := rfl
  have t6 : Int.tmod ((bN l i 1 : Nat) : Int) 3 = ((bN l i 1 % 3 : Nat) : Int) := rfl
  rw [e0, e1, e2, t0, ti, t1, t2, t3, t4, t5, t6, Int.toNat_natCast]
  have wi : IntKind.i64.wrap ((i : Int) + 1) = ((i + 1 : Nat) : Int) := w_nat rfl (by omega)
  have hnext : deedD l wild s (i + 1) = deedF l wild s i (deedD l wild s i) := rfl
  refine ⟨hlt, br_intro (fun ha => ⟨hlt, ?_⟩) fun ha => ⟨hlt, ?_⟩⟩
  · have hat : deedAt l wild i = wild := if_pos (eqN 7 ha)
    refine br_intro (fun h => ⟨hok, sameK_self _, i + 1, hlt, by omega, wi, ?_⟩) fun h => br_intro (fun h1 m1 => ⟨hlt, hok, sameK_self _, i + 1, hlt, by omega, ⟨wi, ?_⟩, ?_⟩) fun h1 => br_intro (fun h2 => ⟨hlt, sameK_self _, i + 1, hlt, by omega, wi, ?_⟩) fun h2 => br_intro (fun h3 => ⟨hok, sameK_self _, i + 1, hlt, by omega, wi, ?_⟩) fun h3 =>
      br_intro (fun h4 => ⟨hok, sameK_self _, i + 1, hlt, by omega, wi, ?_⟩) fun h4 => ⟨hlt, ⟨by omega, by omega⟩, hok, hlt, ⟨by omega, by omega⟩, hok, sameK_self _, i + 1, hlt, by omega, wi, ?_⟩
    · rw [hnext, deedF, if_pos (eqN 0 h)]
    · rw [hnext, deedF, if_neg (neN 0 h), if_pos (eqN 1 h1)]
    · rw [off_seal (by decide)]
      simp (decide := true)
    · rw [hnext, deedF, if_neg (neN 0 h), if_neg (neN 1 h1), if_pos (eqN 2 h2)]
    · rw [hnext, deedF, if_neg (neN 0 h), if_neg (neN 1 h1), if_neg (neN 2 h2), if_pos (eqN 3 h3)]
    · rw [hnext, deedF, if_neg (neN 0 h), if_neg (neN 1 h1), if_neg (neN 2 h2), if_neg (neN 3 h3), if_pos (eqN 4 h4), hat]
    · rw [hnext, deedF, if_neg (neN 0 h), if_neg (neN 1 h1), if_neg (neN 2 h2), if_neg (neN 3 h3), if_neg (neN 4 h4), hat]
  · have hat : deedAt l wild i = ((bN l i 1 % 6 : Nat) : Int) - 1 := if_neg (neN 7 ha)
    refine br_intro (fun h => ⟨hok, sameK_self _, i + 1, hlt, by omega, wi, ?_⟩) fun h => br_intro (fun h1 m1 => ⟨hlt, hok, sameK_self _, i + 1, hlt, by omega, ⟨wi, ?_⟩, ?_⟩) fun h1 => br_intro (fun h2 => ⟨hlt, sameK_self _, i + 1, hlt, by omega, wi, ?_⟩) fun h2 => br_intro (fun h3 => ⟨hok, sameK_self _, i + 1, hlt, by omega, wi, ?_⟩) fun h3 =>
      br_intro (fun h4 => ⟨hok, sameK_self _, i + 1, hlt, by omega, wi, ?_⟩) fun h4 => ⟨hlt, ⟨by omega, by omega⟩, hok, hlt, ⟨by omega, by omega⟩, hok, sameK_self _, i + 1, hlt, by omega, wi, ?_⟩
    · rw [hnext, deedF, if_pos (eqN 0 h)]
    · rw [hnext, deedF, if_neg (neN 0 h), if_pos (eqN 1 h1)]
    · rw [off_seal (by decide)]
      simp (decide := true)
    · rw [hnext, deedF, if_neg (neN 0 h), if_neg (neN 1 h1), if_pos (eqN 2 h2)]
    · rw [hnext, deedF, if_neg (neN 0 h), if_neg (neN 1 h1), if_neg (neN 2 h2), if_pos (eqN 3 h3)]
    · rw [hnext, deedF, if_neg (neN 0 h), if_neg (neN 1 h1), if_neg (neN 2 h2), if_neg (neN 3 h3), if_pos (eqN 4 h4), hat]
    · rw [hnext, deedF, if_neg (neN 0 h), if_neg (neN 1 h1), if_neg (neN 2 h2), if_neg (neN 3 h3), if_neg (neN 4 h4), hat]
end Go.Proofs.Ytcopoofbicgjbaa
