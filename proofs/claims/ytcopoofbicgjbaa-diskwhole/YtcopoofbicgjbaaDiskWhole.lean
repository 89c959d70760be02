import Derived.Test.YtcopoofbicgjbaaDiskQ
set_option maxRecDepth 100000
set_option maxHeartbeats 4000000
set_option linter.unusedSimpArgs false
set_option linter.unusedVariables false
set_option pp.deepTerms.threshold 30
namespace Go.Proofs.Ytcopoofbicgjbaa
open Go.Tm Go.IntWalk
def ΓdiskWhole : Cons := cons [(8, dbegunC), (9, dnewC), (17, dwriteC), (15, dreadC), (13, dcrashC), (11, dflushC), (19, kblockC)]
theorem ΓdiskWhole_ok : ConsOK Try.prog ΓdiskWhole := (consOK_cons dbegun_ok (consOK_cons dnew_ok (consOK_cons dwrite_ok (consOK_cons dread_ok (consOK_cons dcrash_ok (consOK_cons dflush_ok (consOK_cons kblock_ok consOK_nil)))))))
theorem diskWhole_ex : LawEx tab ΓdiskWhole Try.f4 [.slice (.arr 2 (.int .u8)), .slice (.arr 2 (.int .u8)), .slice .bool] := by
  intro l h1 h2
  obtain ⟨l, l1, rfl, e1⟩ := types_cons h1
  obtain ⟨m, l2, rfl, e2⟩ := types_cons e1
  obtain ⟨keep, l3, rfl, e3⟩ := types_cons e2
  obtain rfl := types_nil e3
  clear h1 e1 e2 e3
  have g_dbegun : ΓdiskWhole 8 = some dbegunC := rfl
  have g_dnew : ΓdiskWhole 9 = some dnewC := rfl
  have g_dwrite : ΓdiskWhole 17 = some dwriteC := rfl
  have g_dread : ΓdiskWhole 15 = some dreadC := rfl
  have g_dcrash : ΓdiskWhole 13 = some dcrashC := rfl
  have g_dflush : ΓdiskWhole 11 = some dflushC := rfl
  have g_kblock : ΓdiskWhole 19 = some kblockC := rfl
  have v_l : okv (.slice (.arr 2 (.int .u8))) l := h2 ⟨_, l⟩ (by simp)
  have v_m : okv (.slice (.arr 2 (.int .u8))) m := h2 ⟨_, m⟩ (by simp)
  clear h2
  simp only [Try.f4, Option.getD_some]
  simp (implicitDefEqProofs := false) (decide := true) (maxSteps := 4000000) [ini, g_dbegun, dbegunC_eq, g_dnew, dnewC_eq, g_dwrite, dwriteC_eq, g_dread, dreadC_eq, g_dcrash, dcrashC_eq, g_dflush, dflushC_eq, g_kblock, kblockC_eq]
  intro _ hl0 _ hm0 _ hk0 m1
  have hl1 : List.length l ≤ 20 := Int.ofNat_le.1 hl0
  have hm1 : List.length m ≤ 10 := Int.ofNat_le.1 hm0
  refine ex_loopU (σ := Nat × Nat) [8, 34, 35, 36, 37, 38, 39, 40, 41, 42, 43, 44, 45, 46, 47, 48, 49, 50, 51, 52, 53, 54, 55, 56, 57, 7] (fun a => [(8, .val (.int .i64) (a.1 : Int)), (7, .obj a.2 DkT (putsD l (newK 5) a.1))]) (fun a => a.1 ≤ l.length) (fun a => l.length - a.1) (0, _) (Nat.zero_le _) (hc rfl (hc rfl hn)) ?_
  rintro j ⟨i, q⟩ hi
  simp (implicitDefEqProofs := false) (decide := true) (maxSteps := 4000000) [ini, g_dbegun, dbegunC_eq, g_dnew, dnewC_eq, g_dwrite, dwriteC_eq, g_dread, dreadC_eq, g_dcrash, dcrashC_eq, g_dflush, dflushC_eq, g_kblock, kblockC_eq]
  obtain ⟨a1, a2, a3, a4⟩ := putsD_at l (d0 := newK 5) newK_five rfl rfl i
  have hokL : okD (putsD l (newK 5) i) := putsD_ok l newK_five rfl rfl (by show 0 + i ≤ 1000; omega)
  intro _
  refine br_dec (fun hlt => ?_) fun hge => ⟨hokL, fun m2 => ?_⟩
  · obtain ⟨e0, f0⟩ := bN_at v_l hlt [0, 0] 0
    obtain ⟨e1, f1⟩ := bN_at v_l hlt [0, 0] 1
    have t0 : IntKind.i64.wrap (Int.tmod ((bN l i 0 : Nat) : Int) 5) = ((bN l i 0 % 5 : Nat) : Int) := tmod_nat _ 5 f0 (by decide)
    rw [e0, e1, t0, Int.toNat_natCast]
    exact ⟨hlt, ⟨by omega, by omega⟩, hokL, i + 1, hlt, by omega, w_nat rfl (by omega), rfl⟩
  obtain ⟨D0, hD0⟩ : ∃ D0, (flushK (putsD l (newK 5) i)).1 = D0 := ⟨_, rfl⟩
  have b1 : D0.1.length = 5 := by rw [← hD0, flushK, if_neg (by rw [a4]; exact Bool.false_ne_true)]; show (lastsK _ 0 _ _).length = 5; rw [lastsK_len, a1]; exact newK_five
  have b2 : D0.2.1 = [] := by rw [← hD0, flushK, if_neg (by rw [a4]; exact Bool.false_ne_true)]
  have b3 : D0.2.2.1 = 0 := by rw [← hD0, flushK, if_neg (by rw [a4]; exact Bool.false_ne_true)]; exact a3
  have b4 : D0.2.2.2.1 = false := by rw [← hD0, flushK, if_neg (by rw [a4]; exact Bool.false_ne_true)]; exact a4
  rw [hD0]
  refine ex_loopU (σ := Nat × Nat) [10, 64, 65, 66, 67, 68, 69, 70, 71, 72, 73, 74, 75, 76, 77, 78, 79, 80, 81, 82, 83, 84, 85, 86, 87, 7] (fun a => [(10, .val (.int .i64) (a.1 : Int)), (7, .obj a.2 DkT (putsD m D0 a.1))]) (fun a => a.1 ≤ m.length) (fun a => m.length - a.1) (0, _) (Nat.zero_le _) (hc rfl (hc rfl hn)) ?_
  rintro j2 ⟨i2, q2⟩ hi2
  obtain ⟨c1, c2, c3, c4⟩ := putsD_at m (d0 := D0) b1 b3 b4 i2
  have hokM : okD (putsD m D0 i2) := putsD_ok m b1 b3 b4 (by rw [b2]; show 0 + i2 ≤ 1000; omega)
  simp (implicitDefEqProofs := false) (decide := true) (maxSteps := 4000000) [ini, g_dbegun, dbegunC_eq, g_dnew, dnewC_eq, g_dwrite, dwriteC_eq, g_dread, dreadC_eq, g_dcrash, dcrashC_eq, g_dflush, dflushC_eq, g_kblock, kblockC_eq]
  intro _
  refine br_dec (fun hlt => ?_) fun hge => ?_
  · obtain ⟨e0, f0⟩ := bN_at v_m hlt [0, 0] 0
    obtain ⟨e1, f1⟩ := bN_at v_m hlt [0, 0] 1
    have t0 : IntKind.i64.wrap (Int.tmod ((bN m i2 0 : Nat) : Int) 5) = ((bN m i2 0 % 5 : Nat) : Int) := tmod_nat _ 5 f0 (by decide)
    rw [e0, e1, t0, Int.toNat_natCast]
    exact ⟨hlt, ⟨by omega, by omega⟩, hokM, i2 + 1, hlt, by omega, w_nat rfl (by omega), rfl⟩
  intro m3
  refine ⟨hokM, ?_⟩
  have e2 : i2 = m.length := by omega
  subst e2
  obtain ⟨dM, hM⟩ : ∃ dM, putsD m D0 m.length = dM := ⟨_, rfl⟩
  rw [hM] at c1 c2 c3 c4 hokM ⊢
  rw [b2, List.nil_append] at c2
  have hokX := crash_ok hokM keep
  have hokD0 : okD D0 := ⟨by rw [b1]; decide, by rw [b2]; decide, by rw [b3]; decide, by rw [b3]; decide⟩
  have hrX : ∀ k : Nat, k < 5 → readK (crashK dM keep) (k : Int) = (wantN dM.2.1 (keepL keep) k (D0.1.getD k no) m.length, true) := fun k hk => by
    rw [crash_read (by rw [c1, b1]; exact hk), c1]
    rw [show dM.2.1.length = m.length by rw [c2, upto_length]]
  have hrD : ∀ k : Nat, k < 5 → readK D0 (k : Int) = (D0.1.getD k no, true) := fun k hk => by
    rw [read_up b4 (by rw [b1]; exact hk), b2]; rfl
  refine ex_loopU (σ := Nat) [6, 12, 13, 14, 15, 16, 17, 91, 92, 93, 94, 95, 96, 97, 98, 99, 100, 101, 102, 103, 104, 105, 106, 107, 108, 109, 110, 111, 112, 113, 114, 115, 116, 117, 118, 119, 120, 121, 122, 123, 124, 125, 126, 127, 128, 129, 130, 131, 132, 133, 134, 135, 136, 137, 138, 139, 140, 141, 142, 143, 144, 145, 146, 147, 148, 149, 150] (fun a => [(12, .val (.int .i64) (a : Int))]) (fun a => a ≤ 5) (fun a => 5 - a) 0 (Nat.zero_le _) (hc rfl hn) ?_
  rintro j4 k hk
  simp (implicitDefEqProofs := false) (decide := true) (maxSteps := 4000000) [ini, g_dbegun, dbegunC_eq, g_dnew, dnewC_eq, g_dwrite, dwriteC_eq, g_dread, dreadC_eq, g_dcrash, dcrashC_eq, g_dflush, dflushC_eq, g_kblock, kblockC_eq]
  refine br_dec (fun hlt => ?_) fun hge => ?_
  · have hk5 : k < 5 := by omega
    rw [hrX k hk5, hrD k hk5]
    refine ⟨hokX, hokD0, ?_⟩
    refine ex_loopU (σ := Nat) [15, 17, 107, 108, 109, 110, 111, 112, 113, 114, 115, 116, 117, 118, 119, 120, 121, 122, 123, 124, 125, 126, 127, 128, 129, 130, 131, 132, 133, 134, 135, 136, 137, 138, 139] (fun a => [(17, .val (.int .i64) (a : Int)), (15, .val .str (wantN dM.2.1 (keepL keep) k (D0.1.getD k no) a))]) (fun a => a ≤ m.length) (fun a => m.length - a) 0 (Nat.zero_le _) (hc rfl (hc rfl hn)) ?_
    rintro j5 i5 hi5
    simp (implicitDefEqProofs := false) (decide := true) (maxSteps := 4000000) [ini, g_dbegun, dbegunC_eq, g_dnew, dnewC_eq, g_dwrite, dwriteC_eq, g_dread, dreadC_eq, g_dcrash, dcrashC_eq, g_dflush, dflushC_eq, g_kblock, kblockC_eq]
    intro _
    refine br_dec (fun hlt => ?_) fun hge => ?_
    · obtain ⟨e0, f0⟩ := bN_at v_m hlt [0, 0] 0
      obtain ⟨e1, f1⟩ := bN_at v_m hlt [0, 0] 1
      have t0 : IntKind.i64.wrap (Int.tmod ((bN m i5 0 : Nat) : Int) 5) = ((bN m i5 0 % 5 : Nat) : Int) := tmod_nat _ 5 f0 (by decide)
      rw [e0, e1, t0, Int.toNat_natCast]
      have hw : wantN dM.2.1 (keepL keep) k (D0.1[k]?.getD no) (i5 + 1) = if ((bN m i5 0 % 5 : Nat) : Int) = (k : Int) ∧ keepL keep i5 = true then blockK (bN m i5 1) else wantN dM.2.1 (keepL keep) k (D0.1[k]?.getD no) i5 := by
        rw [wantN, c2, upto_getD _ _ hlt]
      have hkl : keepL keep i5 = keep[i5]?.getD false := by rw [keepL, List.getD_eq_getElem?_getD]
      refine ⟨hlt, br_intro (fun h1 _ => br_dec (fun h2 => ⟨h2, br_intro (fun h3 => ⟨hlt, ⟨by omega, by omega⟩, i5 + 1, hlt, by omega, w_nat rfl (by omega), ?_⟩) fun h3 => ⟨i5 + 1, hlt, by omega, w_nat rfl (by omega), ?_⟩⟩) fun h2 => ⟨i5 + 1, hlt, by omega, w_nat rfl (by omega), ?_⟩) fun h1 => ⟨i5 + 1, hlt, by omega, w_nat rfl (by omega), ?_⟩⟩
      · rw [hw, if_pos ⟨by simpa using h1, by rw [hkl]; exact h3⟩]
      · rw [hw, if_neg (fun h => by rw [hkl, h3] at h; cases h.2)]
      · rw [hw, if_neg (fun h => by rw [hkl, List.getElem?_eq_none (by omega)] at h; cases h.2)]
      · rw [hw, if_neg (fun h => by rw [h.1] at h1; simp at h1)]
    · have e5 : i5 = m.length := by omega
      rw [e5]
      exact ⟨rfl, k + 1, by omega, by omega, w_nat rfl (by omega)⟩
  · intro _
    exact ⟨rfl, rfl, rfl⟩
end Go.Proofs.Ytcopoofbicgjbaa
