import Derived.Test.YthhjlbpmpffapaaGreatDoorBody7
import Derived.Test.YthhjlbpmpffapaaGreatDoorPicksE
import Derived.Test.YthhjlbpmpffapaaGreatDoorSame6
import Derived.Test.YthhjlbpmpffapaaGreatDoorPRng
import Derived.Test.YthhjlbpmpffapaaGreatDoorPInd
set_option maxRecDepth 100000
set_option maxHeartbeats 4000000
set_option linter.unusedSimpArgs false
set_option linter.unusedVariables false
set_option pp.deepTerms.threshold 16
namespace Go.Proofs.YthhjlbpmpffapaaGreatDoor
open Go.Tm Go.IntWalk
noncomputable def ΓbodyAll : Cons := cons [(5, ybegunC), (6, pmadeC), (7, ptreeC), (8, ppathC), (9, pnumC), (10, ptextC), (11, breadC), (12, rreadTC), (13, bwriteC), (14, rwriteTC), (16, bcutC), (17, rsizeTC), (18, bmodeC), (19, rmodeTC), (20, bstatC), (21, rstatTC), (22, blistC), (23, rlistTC), (15, rsameT6C), (24, rsame6C)]
theorem ΓbodyAll_ok : ConsOK Tryz.prog ΓbodyAll := (consOK_cons ybegun_ok (consOK_cons pmade_ok (consOK_cons ptree_ok (consOK_cons ppath_ok (consOK_cons pnum_ok (consOK_cons ptext_ok (consOK_cons bread_ok (consOK_cons rreadT_ok (consOK_cons bwrite_ok (consOK_cons rwriteT_ok (consOK_cons bcut_ok (consOK_cons rsizeT_ok (consOK_cons bmode_ok (consOK_cons rmodeT_ok (consOK_cons bstat_ok (consOK_cons rstatT_ok (consOK_cons blist_ok (consOK_cons rlistT_ok (consOK_cons rsameT6_ok (consOK_cons rsame6_ok consOK_nil))))))))))))))))))))
theorem bodyAll_ex : LawEx tab ΓbodyAll Tryz.f3 [.slice (.int .u8), .slice (.int .u8), .str, .int .i64, .int .i64, .int .i64, .str, .int .u8] := by
  intro l h1 h2
  obtain ⟨picks, l1, rfl, e1⟩ := types_cons h1
  obtain ⟨more, l2, rfl, e2⟩ := types_cons e1
  obtain ⟨path, l3, rfl, e3⟩ := types_cons e2
  obtain ⟨off0, l4, rfl, e4⟩ := types_cons e3
  obtain ⟨size0, l5, rfl, e5⟩ := types_cons e4
  obtain ⟨mode0, l6, rfl, e6⟩ := types_cons e5
  obtain ⟨text, l7, rfl, e7⟩ := types_cons e6
  obtain ⟨own0, l8, rfl, e8⟩ := types_cons e7
  obtain rfl := types_nil e8
  clear h1 e1 e2 e3 e4 e5 e6 e7 e8
  have g_ybegun : ΓbodyAll 5 = some ybegunC := rfl
  have g_pmade : ΓbodyAll 6 = some pmadeC := rfl
  have g_ptree : ΓbodyAll 7 = some ptreeC := rfl
  have g_ppath : ΓbodyAll 8 = some ppathC := rfl
  have g_pnum : ΓbodyAll 9 = some pnumC := rfl
  have g_ptext : ΓbodyAll 10 = some ptextC := rfl
  have g_bread : ΓbodyAll 11 = some breadC := rfl
  have g_rreadT : ΓbodyAll 12 = some rreadTC := rfl
  have g_bwrite : ΓbodyAll 13 = some bwriteC := rfl
  have g_rwriteT : ΓbodyAll 14 = some rwriteTC := rfl
  have g_bcut : ΓbodyAll 16 = some bcutC := rfl
  have g_rsizeT : ΓbodyAll 17 = some rsizeTC := rfl
  have g_bmode : ΓbodyAll 18 = some bmodeC := rfl
  have g_rmodeT : ΓbodyAll 19 = some rmodeTC := rfl
  have g_bstat : ΓbodyAll 20 = some bstatC := rfl
  have g_rstatT : ΓbodyAll 21 = some rstatTC := rfl
  have g_blist : ΓbodyAll 22 = some blistC := rfl
  have g_rlistT : ΓbodyAll 23 = some rlistTC := rfl
  have g_rsameT6 : ΓbodyAll 15 = some rsameT6C := rfl
  have g_rsame6 : ΓbodyAll 24 = some rsame6C := rfl
  have b_picks : isB picks := okv_bytes (h2 ⟨_, picks⟩ (by simp))
  have b_more : isB more := okv_bytes (h2 ⟨_, more⟩ (by simp))
  have h_off0 := okv_i64 (h2 ⟨_, off0⟩ (by simp))
  have h_size0 := okv_i64 (h2 ⟨_, size0⟩ (by simp))
  have h_mode0 := okv_i64 (h2 ⟨_, mode0⟩ (by simp))
  obtain ⟨n_own0, rfl, h_own0⟩ := okv_u8 (h2 ⟨_, own0⟩ (by simp))
  clear h2
  simp only [Tryz.f3, Option.getD_some]
  simp (implicitDefEqProofs := false) (decide := true) (maxSteps := 4000000) [ini, g_ybegun, ybegunC_eq, g_pmade, pmadeC_eq, g_ptree, ptreeC_eq, g_ppath, ppathC_eq, g_pnum, pnumC_eq, g_ptext, ptextC_eq, g_bread, breadC_eq, g_rreadT, rreadTC_eq, g_bwrite, bwriteC_eq, g_rwriteT, rwriteTC_eq, g_bcut, bcutC_eq, g_rsizeT, rsizeTC_eq, g_bmode, bmodeC_eq, g_rmodeT, rmodeTC_eq, g_bstat, bstatC_eq, g_rstatT, rstatTC_eq, g_blist, blistC_eq, g_rlistT, rlistTC_eq, g_rsameT6, rsameT6C_eq, g_rsame6, rsame6C_eq]
  intro _ hp1 _ hp2 hp3 hp4 m
  have hp1 : List.length picks ≤ 60 := Int.ofNat_le.1 hp1
  have hp2 : List.length more ≤ 8 := Int.ofNat_le.1 hp2
  have hp3 : ByteArray.size path ≤ 80 := Int.ofNat_le.1 hp3
  have hp4 : ByteArray.size text ≤ 130 := Int.ofNat_le.1 hp4
  have o1 : okP (picks, 0, ()) := ⟨b_picks, Int.le_refl 0, by simp only; omega, by simp only; omega⟩
  have o2 : okP (more, 0, ()) := ⟨b_more, Int.le_refl 0, by simp only; omega, by simp only; omega⟩
  have gt : GoodT (grownP 30 (picks, 0, ()) newT).1 := good_grown newT_good
  refine ⟨o1, fun m1 m2 => ⟨o2, pathP_ok o2, fun m3 => ⟨pathP_ok (pathP_ok o2), numP_ok (pathP_ok (pathP_ok o2)) _, numP_ok (numP_ok (pathP_ok (pathP_ok o2)) _) _, numP_ok (numP_ok (numP_ok (pathP_ok (pathP_ok o2)) _) _) _, ?_⟩⟩⟩
  generalize (grownP 30 (picks, 0, ()) newT).1 = t at gt ⊢
  have hW : ∀ s ∈ [path, (pathP (more, 0, ())).1, (pathP (pathP (more, 0, ())).2).1, (⟨#[47, 97]⟩ : ByteArray)], ByteArray.size s ≤ 80 := fun s hs => by
    simp only [List.mem_cons, List.not_mem_nil, or_false] at hs
    have k1 := pathP_small (more, 0, ())
    have k2 := pathP_small (pathP (more, 0, ())).2
    rcases hs with rfl | rfl | rfl | rfl
    · exact hp3
    · omega
    · omega
    · decide
  have hWl : [path, (pathP (more, 0, ())).1, (pathP (pathP (more, 0, ())).2).1, (⟨#[47, 97]⟩ : ByteArray)].length = 4 := rfl
  have hX : ∀ s ∈ [text, (textP (numP (numP (numP (pathP (pathP (more, 0, ())).2).2 130).2 130).2 256).2).1, (⟨#[]⟩ : ByteArray), text], ByteArray.size s ≤ 130 := fun s hs => by
    simp only [List.mem_cons, List.not_mem_nil, or_false] at hs
    have k1 := textP_small (numP (numP (numP (pathP (pathP (more, 0, ())).2).2 130).2 130).2 256).2
    rcases hs with rfl | rfl | rfl | rfl
    · exact hp4
    · omega
    · decide
    · exact hp4
  have hXl : [text, (textP (numP (numP (numP (pathP (pathP (more, 0, ())).2).2 130).2 130).2 256).2).1, (⟨#[]⟩ : ByteArray), text].length = 4 := rfl
  generalize [path, (pathP (more, 0, ())).1, (pathP (pathP (more, 0, ())).2).1, (⟨#[47, 97]⟩ : ByteArray)] = W at hW hWl ⊢
  generalize [text, (textP (numP (numP (numP (pathP (pathP (more, 0, ())).2).2 130).2 130).2 256).2).1, (⟨#[]⟩ : ByteArray), text] = X at hX hXl ⊢
  refine ex_loopU (σ := Nat) [16, 25, 26, 27, 28, 29, 30, 31, 32, 33, 34, 35, 87, 88, 89, 90, 91, 92, 93, 94, 95, 96, 97, 98, 99, 100, 101, 102, 103, 104, 105, 106, 107, 108, 109, 110, 111, 112, 113, 114, 115, 116, 117, 118, 119, 120, 121, 122, 123, 124, 125, 126, 127, 128, 129, 130, 131, 132, 133, 134, 135, 136, 137, 138, 139, 140, 141, 142, 143, 144, 145, 146, 147, 148, 149, 150, 151, 152, 153, 154, 155, 156, 157, 158, 159, 160, 161, 162, 163, 164, 165, 166, 167, 168, 169, 170, 171, 172, 173, 174, 175, 176, 177, 178, 179, 180, 181, 182, 183, 184, 185, 186, 187, 188, 189, 190, 191, 192, 193, 194, 195, 196, 197, 198, 199, 200, 201, 202, 203, 204, 205, 206, 207, 208, 209, 210, 211, 212, 213, 214, 215, 216, 217, 218, 219, 220, 221, 222, 223, 224, 225, 226, 227, 228, 229, 230, 231, 232, 233, 234, 235, 236, 237, 238, 239, 240, 241, 242, 243, 244, 245, 246, 247, 248, 249, 250, 251, 252, 253, 254, 255, 256, 257, 258, 259, 260, 261, 262, 263, 264, 265, 266, 267, 268, 269, 270, 271, 272, 273, 274, 275, 276, 277, 278, 279, 280, 281, 282, 283, 284, 285, 286, 287, 288, 289, 290, 291, 292, 293, 294] (fun a => [(25, .val (.int .i64) (a : Int))]) (fun a => a ≤ 4) (fun a => 4 - a) 0 (by decide) (hc rfl hn) ?_
  rintro j i hi
  simp (implicitDefEqProofs := false) (decide := true) (maxSteps := 4000000) [ini, g_ybegun, ybegunC_eq, g_pmade, pmadeC_eq, g_ptree, ptreeC_eq, g_ppath, ppathC_eq, g_pnum, pnumC_eq, g_ptext, ptextC_eq, g_bread, breadC_eq, g_rreadT, rreadTC_eq, g_bwrite, bwriteC_eq, g_rwriteT, rwriteTC_eq, g_bcut, bcutC_eq, g_rsizeT, rsizeTC_eq, g_bmode, bmodeC_eq, g_rmodeT, rmodeTC_eq, g_bstat, bstatC_eq, g_rstatT, rstatTC_eq, g_blist, blistC_eq, g_rlistT, rlistTC_eq, g_rsameT6, rsameT6C_eq, g_rsame6, rsame6C_eq, hWl, hXl]
  intro h
  have h4 : i < 4 := by omega
  have hft := gt.fit
  have h9 : t.length = 9 := gt.len
  have hw1 : ByteArray.size (W[i]?.getD { data := #[] }) ≤ 80 := by
    rw [List.getElem?_eq_getElem (by omega)]; exact hW _ (List.getElem_mem (by omega))
  have hx1 : ByteArray.size (X[i]?.getD { data := #[] }) ≤ 130 := by
    rw [List.getElem?_eq_getElem (by omega)]; exact hX _ (List.getElem_mem (by omega))
  have hend : ∃ a', a' ≤ 4 ∧ 4 - a' < 4 - i ∧ IntKind.i64.wrap ((i : Int) + 1) = (a' : Int) := ⟨i + 1, by omega, by omega, w_nat rfl (by omega)⟩
  have hw2 : ByteArray.size (W[i]?.getD { data := #[] }) ≤ 1000000000 := by omega
  have hw3 : ByteArray.size (W[i]?.getD { data := #[] }) ≤ 4000000000 := by omega
  have hx2 : ByteArray.size (X[i]?.getD { data := #[] }) ≤ 4000000000 := by omega
  repeat' (first | assumption | exact same_refl (t := StatT) (by decide) _ | apply And.intro)
end Go.Proofs.YthhjlbpmpffapaaGreatDoor
