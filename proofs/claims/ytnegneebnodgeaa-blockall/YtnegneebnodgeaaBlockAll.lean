import Derived.Test.YtnegneebnodgeaaBlock3
set_option maxRecDepth 10000
set_option maxHeartbeats 2000000
set_option linter.unusedSimpArgs false
set_option linter.unusedVariables false
set_option pp.deepTerms.threshold 12
namespace Go.Proofs.Ytnegneebnodgeaa
open Go.Tm Go.IntWalk
def ΓblockAll : Cons := cons [(7, bbegunC), (8, pmadeC), (9, pblockC), (10, bmayC), (11, rbmayC), (12, bputC), (13, rbputC), (14, btakeC), (15, rbtakeC)]
theorem ΓblockAll_ok : ConsOK Try.prog ΓblockAll := (consOK_cons bbegun_ok (consOK_cons pmade_ok (consOK_cons pblock_ok (consOK_cons bmay_ok (consOK_cons rbmay_ok (consOK_cons bput_ok (consOK_cons rbput_ok (consOK_cons btake_ok (consOK_cons rbtake_ok consOK_nil)))))))))
theorem blockAll_ex : LawEx tab ΓblockAll Try.f3 [.prod (.int .i64) (.prod (.int .i64) (.prod .str .unit)), .slice (.int .u8), .str, .int .u8, .int .u8] := by
  intro l h1 h2
  obtain ⟨wild, l1, rfl, e1⟩ := types_cons h1
  obtain ⟨picks, l2, rfl, e2⟩ := types_cons e1
  obtain ⟨b, l3, rfl, e3⟩ := types_cons e2
  obtain ⟨at', l4, rfl, e4⟩ := types_cons e3
  obtain ⟨by', l5, rfl, e5⟩ := types_cons e4
  obtain rfl := types_nil e5
  clear h1 e1 e2 e3 e4 e5
  have g_bbegun : ΓblockAll 7 = some bbegunC := rfl
  have g_pmade : ΓblockAll 8 = some pmadeC := rfl
  have g_pblock : ΓblockAll 9 = some pblockC := rfl
  have g_bmay : ΓblockAll 10 = some bmayC := rfl
  have g_rbmay : ΓblockAll 11 = some rbmayC := rfl
  have g_bput : ΓblockAll 12 = some bputC := rfl
  have g_rbput : ΓblockAll 13 = some rbputC := rfl
  have g_btake : ΓblockAll 14 = some btakeC := rfl
  have g_rbtake : ΓblockAll 15 = some rbtakeC := rfl
  have b_picks : isB picks := okv_bytes (h2 ⟨_, picks⟩ (by simp))
  obtain ⟨n_at', rfl, h_at'⟩ := okv_u8 (h2 ⟨_, at'⟩ (by simp))
  obtain ⟨n_by', rfl, h_by'⟩ := okv_u8 (h2 ⟨_, by'⟩ (by simp))
  clear h2
  simp only [Try.f3, Option.getD_some]
  simp (implicitDefEqProofs := false) (decide := true) (maxSteps := 4000000) [ini, g_bbegun, bbegunC_eq, g_pmade, pmadeC_eq, g_pblock, pblockC_eq, g_bmay, bmayC_eq, g_rbmay, rbmayC_eq, g_bput, bputC_eq, g_rbput, rbputC_eq, g_btake, btakeC_eq, g_rbtake, rbtakeC_eq]
  intro m _ _ hp _ m1
  have hp0 : okP (picks, 0, ()) := ⟨b_picks, Int.le_refl 0, by simp only; omega, by simp only; omega⟩
  have hm := blockP_may hp0
  refine ⟨hp0, fun m2 => ?_⟩
  obtain ⟨e, he⟩ : ∃ e : Blk, (blockP (picks, 0, ())).1 = e := ⟨_, rfl⟩
  rw [he] at hm ⊢
  have a5 := (mayB_iff.1 hm).2.2.2.2
  have hput : putB e = strOf (fullL e) := putB_yes hm
  have hb : bytesOf (strOf (fullL e)) = fullL e := bytesOf_strOf (isB_fullL (by omega))
  have hlf := fullL_len a5
  refine ex_loopU (σ := Nat) [10, 13, 43, 44, 45, 46, 47, 48, 49, 50, 51, 52, 53, 54, 55, 56, 57, 58, 59, 60, 61, 62, 63, 64, 65, 66, 67, 68, 69, 70] (fun s => [(13, .val (.int .i64) (s : Int))]) (fun s => s ≤ 2) (fun s => 2 - s) 0 (by simp) (hc rfl hn) ?_
  rintro j i hi
  simp (implicitDefEqProofs := false) (decide := true) (maxSteps := 4000000) [ini, g_bbegun, bbegunC_eq, g_pmade, pmadeC_eq, g_pblock, pblockC_eq, g_bmay, bmayC_eq, g_rbmay, rbmayC_eq, g_bput, bputC_eq, g_rbput, rbputC_eq, g_btake, btakeC_eq, g_rbtake, rbtakeC_eq, he, hm, hput, hb, hlf]
  refine br_dec (fun hlt => ⟨hlt, by omega, hlt, by omega, hlt, by omega, hlt, by omega, i + 1, by omega, by omega, w_nat rfl (by omega)⟩) (fun hge m3 => ?_)
  have w1 : IntKind.i64.wrap (n_at' : Int) = (n_at' : Int) := w_nat rfl (by omega)
  have t1 : (n_at' : Int).tmod 64 = ((n_at' % 64 : Nat) : Int) := tmod_nat n_at' 64
  rw [w1, t1, size_strOf, hlf]
  refine ⟨by decide, ⟨by omega, by omega⟩, by omega, ⟨by omega, by omega⟩, by omega, fun m4 => ?_⟩
  refine ex_loopU (σ := Nat) [10, 16, 17, 18, 19, 20, 89, 90, 91, 92, 93, 94, 95, 96, 97, 98, 99, 100, 101, 102, 103, 104, 105, 106, 107, 108, 109, 110, 111, 112, 113, 114, 115, 116] (fun s => [(16, .val (.int .i64) (s : Int))]) (fun s => s ≤ 2) (fun s => 2 - s) 0 (by simp) (hc rfl hn) ?_
  rintro j2 i2 hi2
  simp (implicitDefEqProofs := false) (decide := true) (maxSteps := 4000000) [ini, g_bbegun, bbegunC_eq, g_pmade, pmadeC_eq, g_pblock, pblockC_eq, g_bmay, bmayC_eq, g_rbmay, rbmayC_eq, g_bput, bputC_eq, g_rbput, rbputC_eq, g_btake, btakeC_eq, g_rbtake, rbtakeC_eq, he, hm, hput, hb, hlf]
  exact fun h => ⟨h, by omega, h, by omega, same_refl (t := BlkT) (by decide) _, i2 + 1, by omega, by omega, w_nat rfl (by omega)⟩
end Go.Proofs.Ytnegneebnodgeaa
