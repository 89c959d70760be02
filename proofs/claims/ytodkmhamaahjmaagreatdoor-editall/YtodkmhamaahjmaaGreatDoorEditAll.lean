import Derived.Test.YtodkmhamaahjmaaGreatDoorEdit1
import Derived.Test.YtodkmhamaahjmaaGreatDoorG2
set_option maxRecDepth 100000
set_option maxHeartbeats 4000000
set_option linter.unusedSimpArgs false
set_option linter.unusedVariables false
set_option pp.deepTerms.threshold 60
namespace Go.Proofs.YtodkmhamaahjmaaGreatDoor
open Go.Tm Go.IntWalk
noncomputable def ΓeditAll : Cons := cons [(8, zbegunC), (9, pmadeC), (10, ptreeC), (11, ppathC), (12, pnumC), (13, emakeC), (14, rmakeTC), (16, elinkC), (17, rlinkTC), (18, emoveC), (19, rmoveTC), (20, edropC), (21, rdelTC), (15, rsameT6C)]
theorem ΓeditAll_ok : ConsOK Tryz.prog ΓeditAll := (consOK_cons zbegun_ok (consOK_cons pmade_ok (consOK_cons ptree_ok (consOK_cons ppath_ok (consOK_cons pnum_ok (consOK_cons emake_ok (consOK_cons rmakeT_ok (consOK_cons elink_ok (consOK_cons rlinkT_ok (consOK_cons emove_ok (consOK_cons rmoveT_ok (consOK_cons edrop_ok (consOK_cons rdelT_ok (consOK_cons rsameT6_ok consOK_nil))))))))))))))
theorem editAll_ex : LawEx tab ΓeditAll Tryz.f3 [.slice (.int .u8), .slice (.int .u8), .str, .str, .int .i64, .int .i64, .int .i64, .int .u8] := by
  intro l h1 h2
  obtain ⟨picks, l1, rfl, e1⟩ := types_cons h1
  obtain ⟨more, l2, rfl, e2⟩ := types_cons e1
  obtain ⟨from0, l3, rfl, e3⟩ := types_cons e2
  obtain ⟨to0, l4, rfl, e4⟩ := types_cons e3
  obtain ⟨kind0, l5, rfl, e5⟩ := types_cons e4
  obtain ⟨mode0, l6, rfl, e6⟩ := types_cons e5
  obtain ⟨ino0, l7, rfl, e7⟩ := types_cons e6
  obtain ⟨own0, l8, rfl, e8⟩ := types_cons e7
  obtain rfl := types_nil e8
  clear h1 e1 e2 e3 e4 e5 e6 e7 e8
  have g_zbegun : ΓeditAll 8 = some zbegunC := rfl
  have g_pmade : ΓeditAll 9 = some pmadeC := rfl
  have g_ptree : ΓeditAll 10 = some ptreeC := rfl
  have g_ppath : ΓeditAll 11 = some ppathC := rfl
  have g_pnum : ΓeditAll 12 = some pnumC := rfl
  have g_emake : ΓeditAll 13 = some emakeC := rfl
  have g_rmakeT : ΓeditAll 14 = some rmakeTC := rfl
  have g_elink : ΓeditAll 16 = some elinkC := rfl
  have g_rlinkT : ΓeditAll 17 = some rlinkTC := rfl
  have g_emove : ΓeditAll 18 = some emoveC := rfl
  have g_rmoveT : ΓeditAll 19 = some rmoveTC := rfl
  have g_edrop : ΓeditAll 20 = some edropC := rfl
  have g_rdelT : ΓeditAll 21 = some rdelTC := rfl
  have g_rsameT6 : ΓeditAll 15 = some rsameT6C := rfl
  have b_picks : isB picks := okv_bytes (h2 ⟨_, picks⟩ (by simp))
  have b_more : isB more := okv_bytes (h2 ⟨_, more⟩ (by simp))
  have h_kind0 := okv_i64 (h2 ⟨_, kind0⟩ (by simp))
  have h_mode0 := okv_i64 (h2 ⟨_, mode0⟩ (by simp))
  have h_ino0 := okv_i64 (h2 ⟨_, ino0⟩ (by simp))
  obtain ⟨n_own0, rfl, h_own0⟩ := okv_u8 (h2 ⟨_, own0⟩ (by simp))
  clear h2
  simp only [Tryz.f3, Option.getD_some]
  simp (implicitDefEqProofs := false) (decide := true) (maxSteps := 4000000) [ini, g_zbegun, zbegunC_eq, g_pmade, pmadeC_eq, g_ptree, ptreeC_eq, g_ppath, ppathC_eq, g_pnum, pnumC_eq, g_emake, emakeC_eq, g_rmakeT, rmakeTC_eq, g_elink, elinkC_eq, g_rlinkT, rlinkTC_eq, g_emove, emoveC_eq, g_rmoveT, rmoveTC_eq, g_edrop, edropC_eq, g_rdelT, rdelTC_eq, g_rsameT6, rsameT6C_eq]
  intro _ hp1 _ hp2 hp3 hp4 m
  have hp1 : List.length picks ≤ 60 := Int.ofNat_le.1 hp1
  have hp2 : List.length more ≤ 8 := Int.ofNat_le.1 hp2
  have hp3 : ByteArray.size from0 ≤ 80 := Int.ofNat_le.1 hp3
  have hp4 : ByteArray.size to0 ≤ 80 := Int.ofNat_le.1 hp4
  have o1 : okP (picks, 0, ()) := ⟨b_picks, Int.le_refl 0, by simp only; omega, by simp only; omega⟩
  have o2 : okP (more, 0, ()) := ⟨b_more, Int.le_refl 0, by simp only; omega, by simp only; omega⟩
  have gt : GoodT (grownP 30 (picks, 0, ()) newT).1 := good_grown newT_good
  refine ⟨o1, fun m1 m2 => ⟨o2, pathP_ok o2, fun m3 => ⟨pathP_ok (pathP_ok o2), pathP_ok (pathP_ok (pathP_ok o2)), fun m4 => ⟨pathP_ok (pathP_ok (pathP_ok (pathP_ok o2))), numP_ok (pathP_ok (pathP_ok (pathP_ok (pathP_ok o2)))) _, numP_ok (numP_ok (pathP_ok (pathP_ok (pathP_ok (pathP_ok o2)))) _) _, numP_ok (numP_ok (numP_ok (pathP_ok (pathP_ok (pathP_ok (pathP_ok o2)))) _) _) _, ?_⟩⟩⟩⟩
  generalize (grownP 30 (picks, 0, ()) newT).1 = t at gt ⊢
  have hW : ∀ s ∈ [from0, (pathP (more, 0, ())).1, (pathP (pathP (more, 0, ())).2).1, from0], ByteArray.size s ≤ 80 := fun s hs => by
    simp only [List.mem_cons, List.not_mem_nil, or_false] at hs
    have k1 := pathP_small (more, 0, ())
    have k2 := pathP_small (pathP (more, 0, ())).2
    rcases hs with rfl | rfl | rfl | rfl
    · exact hp3
    · omega
    · omega
    · exact hp3
  have hWl : [from0, (pathP (more, 0, ())).1, (pathP (pathP (more, 0, ())).2).1, from0].length = 4 := rfl
  have hX : ∀ s ∈ [to0, (pathP (pathP (pathP (more, 0, ())).2).2).1, to0, (pathP (pathP (pathP (pathP (more, 0, ())).2).2).2).1], ByteArray.size s ≤ 80 := fun s hs => by
    simp only [List.mem_cons, List.not_mem_nil, or_false] at hs
    have k1 := pathP_small (pathP (pathP (more, 0, ())).2).2
    have k2 := pathP_small (pathP (pathP (pathP (more, 0, ())).2).2).2
    rcases hs with rfl | rfl | rfl | rfl
    · exact hp4
    · omega
    · exact hp4
    · omega
  have hXl : [to0, (pathP (pathP (pathP (more, 0, ())).2).2).1, to0, (pathP (pathP (pathP (pathP (more, 0, ())).2).2).2).1].length = 4 := rfl
  generalize [from0, (pathP (more, 0, ())).1, (pathP (pathP (more, 0, ())).2).1, from0] = W at hW hWl ⊢
  generalize [to0, (pathP (pathP (pathP (more, 0, ())).2).2).1, to0, (pathP (pathP (pathP (pathP (more, 0, ())).2).2).2).1] = X at hX hXl ⊢
  refine ex_loopU (σ := Nat) [16, 25, 26, 27, 28, 29, 88, 89, 90, 91, 92, 93, 94, 95, 96, 97, 98, 99, 100, 101, 102, 103, 104, 105, 106, 107, 108, 109, 110, 111, 112, 113, 114, 115, 116, 117, 118, 119, 120, 121, 122, 123, 124, 125, 126, 127, 128, 129, 130, 131, 132, 133, 134, 135, 136, 137, 138, 139, 140, 141, 142, 143, 144, 145, 146, 147, 148, 149, 150, 151, 152, 153, 154, 155, 156, 157, 158, 159, 160, 161, 162, 163, 164, 165, 166, 167, 168, 169, 170, 171, 172, 173, 174, 175, 176, 177, 178, 179, 180, 181, 182, 183, 184, 185, 186, 187, 188, 189, 190, 191, 192, 193, 194, 195, 196, 197, 198, 199, 200, 201, 202, 203, 204, 205, 206, 207, 208, 209, 210, 211, 212, 213, 214, 215, 216, 217, 218, 219, 220, 221, 222, 223, 224, 225, 226, 227, 228, 229, 230, 231, 232, 233, 234, 235, 236, 237, 238, 239, 240, 241, 242, 243, 244, 245, 246, 247] (fun a => [(25, .val (.int .i64) (a : Int))]) (fun a => a ≤ 4) (fun a => 4 - a) 0 (by decide) (hc rfl hn) ?_
  rintro j i hi
  simp (implicitDefEqProofs := false) (decide := true) (maxSteps := 4000000) [ini, g_zbegun, zbegunC_eq, g_pmade, pmadeC_eq, g_ptree, ptreeC_eq, g_ppath, ppathC_eq, g_pnum, pnumC_eq, g_emake, emakeC_eq, g_rmakeT, rmakeTC_eq, g_elink, elinkC_eq, g_rlinkT, rlinkTC_eq, g_emove, emoveC_eq, g_rmoveT, rmoveTC_eq, g_edrop, edropC_eq, g_rdelT, rdelTC_eq, g_rsameT6, rsameT6C_eq, hWl, hXl]
  intro h
  have h4 : i < 4 := by omega
  have hft := gt.fit
  have h9 : t.length = 9 := gt.len
  have hdp := gt.deep
  have hw1 : ByteArray.size (W[i]?.getD { data := #[] }) ≤ 80 := by
    rw [List.getElem?_eq_getElem (by omega)]; exact hW _ (List.getElem_mem (by omega))
  have hx1 : ByteArray.size (X[i]?.getD { data := #[] }) ≤ 80 := by
    rw [List.getElem?_eq_getElem (by omega)]; exact hX _ (List.getElem_mem (by omega))
  have hend : ∃ a', a' ≤ 4 ∧ 4 - a' < 4 - i ∧ IntKind.i64.wrap ((i : Int) + 1) = (a' : Int) := ⟨i + 1, by omega, by omega, w_nat rfl (by omega)⟩
  have hw2 : ByteArray.size (W[i]?.getD { data := #[] }) ≤ 1000000000 := by omega
  have hw3 : ByteArray.size (W[i]?.getD { data := #[] }) ≤ 4000000000 := by omega
  have hx2 : ByteArray.size (X[i]?.getD { data := #[] }) ≤ 1000000000 := by omega
  have hx3 : ByteArray.size (X[i]?.getD { data := #[] }) ≤ 4000000000 := by omega
  repeat' (first | assumption | apply And.intro)
end Go.Proofs.YtodkmhamaahjmaaGreatDoor
