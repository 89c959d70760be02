import Derived.Test.YtcopoofbicgjbaaDiskQ
set_option maxRecDepth 100000
set_option maxHeartbeats 4000000
set_option linter.unusedSimpArgs false
set_option linter.unusedVariables false
set_option pp.deepTerms.threshold 30
namespace Go.Proofs.Ytcopoofbicgjbaa
open Go.Tm Go.IntWalk
def ΓdiskReads : Cons := cons [(8, dbegunC), (9, dnewC), (17, dwriteC), (15, dreadC), (11, dflushC), (19, kblockC)]
theorem ΓdiskReads_ok : ConsOK Try.prog ΓdiskReads := (consOK_cons dbegun_ok (consOK_cons dnew_ok (consOK_cons dwrite_ok (consOK_cons dread_ok (consOK_cons dflush_ok (consOK_cons kblock_ok consOK_nil))))))
theorem diskReads_ex : LawEx tab ΓdiskReads Try.f7 [.slice (.arr 3 (.int .u8))] := by
  intro l h1 h2
  obtain ⟨l, l1, rfl, e1⟩ := types_cons h1
  obtain rfl := types_nil e1
  clear h1 e1
  have g_dbegun : ΓdiskReads 8 = some dbegunC := rfl
  have g_dnew : ΓdiskReads 9 = some dnewC := rfl
  have g_dwrite : ΓdiskReads 17 = some dwriteC := rfl
  have g_dread : ΓdiskReads 15 = some dreadC := rfl
  have g_dflush : ΓdiskReads 11 = some dflushC := rfl
  have g_kblock : ΓdiskReads 19 = some kblockC := rfl
  have v_l : okv (.slice (.arr 3 (.int .u8))) l := h2 ⟨_, l⟩ (by simp)
  clear h2
  simp only [Try.f7, Option.getD_some]
  simp (implicitDefEqProofs := false) (decide := true) (maxSteps := 4000000) [ini, g_dbegun, dbegunC_eq, g_dnew, dnewC_eq, g_dwrite, dwriteC_eq, g_dread, dreadC_eq, g_dflush, dflushC_eq, g_kblock, kblockC_eq]
  intro _ hl0 m m1
  have hl1 : List.length l ≤ 25 := Int.ofNat_le.1 hl0
  clear hl0
  refine ex_loopU (σ := Nat × Nat) [5, 17, 18, 19, 20, 21, 22, 23, 24, 4] (fun a => [(5, .val (.int .i64) (a.1 : Int)), (4, .obj a.2 (.arr 4 .str) (List.replicate a.1 nought64 ++ List.replicate (4 - a.1) no))]) (fun a => a.1 ≤ 4) (fun a => 4 - a.1) (0, _) (Nat.zero_le _) (hc rfl (hc rfl hn)) ?_
  rintro j ⟨i, q⟩ hi
  simp (implicitDefEqProofs := false) (decide := true) (maxSteps := 4000000) [ini, g_dbegun, dbegunC_eq, g_dnew, dnewC_eq, g_dwrite, dwriteC_eq, g_dread, dreadC_eq, g_dflush, dflushC_eq, g_kblock, kblockC_eq]
  refine br_dec (fun hlt => ⟨hlt, by omega, i + 1, by omega, by omega, w_nat rfl (by omega), ?_⟩) fun hge => ?_
  · have e : 4 - i = (4 - (i + 1)) + 1 := by omega
    rw [e, List.replicate_succ, List.set_cons_zero, List.replicate_succ', List.append_assoc]
    have e2 : strOf (List.replicate 64 0) = nought64 := by decide +kernel
    exact congrArg (List.replicate i nought64 ++ ·) (congrArg (· :: List.replicate (4 - (i + 1)) no) e2)
  have e4 : i = 4 := by omega
  rw [e4]
  refine ex_loopU (σ := Nat × Nat × Nat) [2, 6, 7, 8, 9, 10, 25, 26, 27, 28, 29, 30, 31, 32, 33, 34, 35, 36, 37, 38, 39, 40, 41, 42, 43, 44, 45, 46, 47, 48, 49, 50, 51, 52, 53, 54, 55, 56, 57, 58, 59, 60, 61, 62, 63, 64, 65, 66, 67, 68, 69, 70, 71, 72, 73, 74, 75, 76, 77, 78, 79, 80, 81, 82, 83, 84, 85, 86, 87, 88, 89, 90, 91, 92, 93, 94, 95, 96, 97, 98, 3, 4] (fun a => [(6, .val (.int .i64) (a.1 : Int)), (3, .obj a.2.1 DkT (readD l a.1)), (4, .obj a.2.2 (.arr 4 .str) (lastF l a.1))]) (fun a => a.1 ≤ l.length) (fun a => l.length - a.1) (0, _, _) (Nat.zero_le _) (hc rfl (hc rfl (hc rfl hn))) ?_
  rintro j2 ⟨k, q3, q4⟩ hk
  obtain ⟨d1, d2, d3, d4, d5, d6⟩ := readD_at l k
  simp (implicitDefEqProofs := false) (decide := true) (maxSteps := 4000000) [ini, g_dbegun, dbegunC_eq, g_dnew, dnewC_eq, g_dwrite, dwriteC_eq, g_dread, dreadC_eq, g_dflush, dflushC_eq, g_kblock, kblockC_eq]
  intro _ hlt
  obtain ⟨e0, f0⟩ := bN_at v_l hlt [0, 0, 0] 0
  obtain ⟨e1, f1⟩ := bN_at v_l hlt [0, 0, 0] 1
  obtain ⟨e2, f2⟩ := bN_at v_l hlt [0, 0, 0] 2
  have t0 : Int.tmod ((bN l k 0 : Nat) : Int) 5 = ((bN l k 0 % 5 : Nat) : Int) := rfl
  have t1 : Int.tmod ((bN l k 1 : Nat) : Int) 4 = ((bN l k 1 % 4 : Nat) : Int) := rfl
  have t2 : IntKind.i64.wrap ((bN l k 1 % 4 : Nat) : Int) = ((bN l k 1 % 4 : Nat) : Int) := w_nat rfl (by omega)
  obtain ⟨n1, n2, n3, n4, n5, n6⟩ := readD_at l (k + 1)
  have hk25 : k ≤ 100 := by omega
  have hk26 : k + 1 ≤ 100 := by omega
  have hm4 : bN l k 1 % 4 < 4 := Nat.mod_lt _ (by decide)
  rw [e0, e1, e2, t0, t1, t2, Int.toNat_natCast, Int.toNat_natCast]
  refine ⟨hlt, br_intro (fun h => ?_) fun h => ?_⟩
  · have hb : bN l k 0 % 5 = 0 := by
      have : ((bN l k 0 % 5 : Nat) : Int) = 0 := by simpa using h
      exact Int.ofNat.inj this
    have hF : (flushK (readD l k)).1 = readD l (k + 1) := by
      show _ = readF l k (readD l k)
      rw [readF, if_pos hb]
    have hG : lastF l (k + 1) = lastF l k := by rw [lastF, if_pos hb]
    have hE : (readD l (k + 1)).2.1 = [] := by
      rw [← hF, flushK, if_neg (by rw [d4]; exact Bool.false_ne_true)]
    have hO : (flushK (readD l k)).2 = true := by rw [flush_ok, d4]; rfl
    rw [hF, hO]
    refine ⟨readD_ok l hk25, fun _ => ⟨hE, ?_⟩⟩
    refine ex_loopU (σ := Nat) [2, 8, 9, 10, 78, 79, 80, 81, 82, 83, 84, 85, 86, 87, 88, 89, 90, 91, 92, 93, 94, 95, 96] (fun a => [(8, .val (.int .i64) (a : Int))]) (fun a => a ≤ 4) (fun a => 4 - a) 0 (Nat.zero_le _) (hc rfl hn) ?_
    rintro j3 i3 hi3
    simp (implicitDefEqProofs := false) (decide := true) (maxSteps := 4000000) [ini, g_dbegun, dbegunC_eq, g_dnew, dnewC_eq, g_dwrite, dwriteC_eq, g_dread, dreadC_eq, g_dflush, dflushC_eq, g_kblock, kblockC_eq]
    refine br_dec (fun h4 => ⟨readD_ok l hk26, ?_, h4, by rw [d5]; omega, ?_, i3 + 1, by omega, by omega, w_nat rfl (by omega)⟩) fun h4 => ⟨k + 1, by omega, by omega, w_nat rfl (by omega), rfl, hG.symm⟩
    · rw [read_ok _ _ (by rw [n1]; omega), n4]; rfl
    · rw [n6 i3 (by omega), List.getD_eq_getElem?_getD, hG]
  · have hb : ¬ bN l k 0 % 5 = 0 := fun hb => by rw [hb] at h; cases h
    have hF : (writeK (readD l k) ((bN l k 1 % 4 : Nat) : Int) (blockK (bN l k 2))).1 = readD l (k + 1) := by
      show _ = readF l k (readD l k)
      rw [readF, if_neg hb]
    have hG : lastF l (k + 1) = (lastF l k).set (bN l k 1 % 4) (blockK (bN l k 2)) := by rw [lastF, if_neg hb]
    have hO : (writeK (readD l k) ((bN l k 1 % 4 : Nat) : Int) (blockK (bN l k 2))).2 = true := by
      rw [write_up d4 (by rw [d1]; exact hm4) (blockK_size _), armK, if_neg (by rw [d3]; exact Int.lt_irrefl _)]
      show (!(readD l k).2.2.2.1) = true
      rw [d4]; rfl
    refine ⟨hlt, ⟨by omega, by omega⟩, ⟨by omega, by omega⟩, by rw [d5]; exact hm4, hlt, ⟨by omega, by omega⟩, readD_ok l hk25, ?_⟩
    rw [hF, hO, ← hG]
    refine ex_loopU (σ := Nat) [2, 8, 9, 10, 78, 79, 80, 81, 82, 83, 84, 85, 86, 87, 88, 89, 90, 91, 92, 93, 94, 95, 96] (fun a => [(8, .val (.int .i64) (a : Int))]) (fun a => a ≤ 4) (fun a => 4 - a) 0 (Nat.zero_le _) (hc rfl hn) ?_
    rintro j3 i3 hi3
    simp (implicitDefEqProofs := false) (decide := true) (maxSteps := 4000000) [ini, g_dbegun, dbegunC_eq, g_dnew, dnewC_eq, g_dwrite, dwriteC_eq, g_dread, dreadC_eq, g_dflush, dflushC_eq, g_kblock, kblockC_eq]
    refine br_dec (fun h4 => ⟨readD_ok l hk26, ?_, h4, by rw [n5]; omega, ?_, i3 + 1, by omega, by omega, w_nat rfl (by omega)⟩) fun h4 => ⟨k + 1, by omega, by omega, w_nat rfl (by omega), rfl, rfl⟩
    · rw [read_ok _ _ (by rw [n1]; omega), n4]; rfl
    · rw [n6 i3 (by omega), List.getD_eq_getElem?_getD]
end Go.Proofs.Ytcopoofbicgjbaa
