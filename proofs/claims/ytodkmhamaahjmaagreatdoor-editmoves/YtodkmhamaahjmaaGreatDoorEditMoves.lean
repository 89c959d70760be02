import Derived.Test.YtodkmhamaahjmaaGreatDoorEdit1
import Derived.Test.YtodkmhamaahjmaaGreatDoorPNames
import Derived.Test.YtodkmhamaahjmaaGreatDoorG2
set_option maxRecDepth 100000
set_option maxHeartbeats 4000000
set_option linter.unusedSimpArgs false
set_option linter.unusedVariables false
set_option pp.deepTerms.threshold 60
namespace Go.Proofs.YtodkmhamaahjmaaGreatDoor
open Go.Tm Go.IntWalk
def pathB (a b : ByteArray) : Bool := !((partsS a false).2 && (partsS b false).2 && ((partsS a false).1.map bl == (partsS b false).1.map bl)) || eqB a b
theorem path_inj {p q : Pk} (h1 : (partsS (pathP p).1 false).2 = true) (h2 : (partsS (pathP q).1 false).2 = true) (h : (partsS (pathP p).1 false).1 = (partsS (pathP q).1 false).1) : (pathP p).1 = (pathP q).1 := by
  have key : ∀ i < 16, ∀ j < 16, pathB ((pathL ++ [no]).getD i no) ((pathL ++ [no]).getD j no) = true := by decide +kernel
  have hx : ∀ p : Pk, ∃ i, i < 16 ∧ (pathP p).1 = (pathL ++ [no]).getD i no := fun p => by
    unfold pathP
    generalize (numP p 15).1.toNat = k
    rcases Nat.lt_or_ge k 15 with h | h
    · refine ⟨k, by omega, ?_⟩
      show pathL.getD k no = _
      rw [List.getD_eq_getElem?_getD, List.getD_eq_getElem?_getD, List.getElem?_append_left (by exact h)]
    · refine ⟨15, by decide, ?_⟩
      show pathL.getD k no = _
      rw [List.getD_eq_getElem?_getD, List.getElem?_eq_none (by exact h)]
      rfl
  obtain ⟨i, hi, ei⟩ := hx p
  obtain ⟨j, hj, ej⟩ := hx q
  have := key i hi j hj
  rw [← ei, ← ej] at this
  unfold pathB at this
  rw [h1, h2, h] at this
  exact eqB_iff.1 (by simpa using this)
noncomputable def ΓeditMoves : Cons := cons [(8, zbegunC), (9, pmadeC), (10, ptreeC), (11, ppathC), (26, rfindTC), (18, emoveC), (15, rsameT6C)]
theorem ΓeditMoves_ok : ConsOK Tryz.prog ΓeditMoves := (consOK_cons zbegun_ok (consOK_cons pmade_ok (consOK_cons ptree_ok (consOK_cons ppath_ok (consOK_cons rfindT_ok (consOK_cons emove_ok (consOK_cons rsameT6_ok consOK_nil)))))))
theorem editMoves_ex : LawEx tab ΓeditMoves Tryz.f5 [.slice (.int .u8), .slice (.int .u8)] := by
  intro l h1 h2
  obtain ⟨picks, l1, rfl, e1⟩ := types_cons h1
  obtain ⟨more, l2, rfl, e2⟩ := types_cons e1
  obtain rfl := types_nil e2
  clear h1 e1 e2
  have g_zbegun : ΓeditMoves 8 = some zbegunC := rfl
  have g_pmade : ΓeditMoves 9 = some pmadeC := rfl
  have g_ptree : ΓeditMoves 10 = some ptreeC := rfl
  have g_ppath : ΓeditMoves 11 = some ppathC := rfl
  have g_rfindT : ΓeditMoves 26 = some rfindTC := rfl
  have g_emove : ΓeditMoves 18 = some emoveC := rfl
  have g_rsameT6 : ΓeditMoves 15 = some rsameT6C := rfl
  have b_picks : isB picks := okv_bytes (h2 ⟨_, picks⟩ (by simp))
  have b_more : isB more := okv_bytes (h2 ⟨_, more⟩ (by simp))
  clear h2
  simp only [Tryz.f5, Option.getD_some]
  simp (implicitDefEqProofs := false) (decide := true) (maxSteps := 4000000) [ini, g_zbegun, zbegunC_eq, g_pmade, pmadeC_eq, g_ptree, ptreeC_eq, g_ppath, ppathC_eq]
  intro _ hp1 _ hp2
  have hp1 : List.length picks ≤ 60 := Int.ofNat_le.1 hp1
  have hp2 : List.length more ≤ 4 := Int.ofNat_le.1 hp2
  have o1 : okP (picks, 0, ()) := ⟨b_picks, Int.le_refl 0, by simp only; omega, by simp only; omega⟩
  have o2 : okP (more, 0, ()) := ⟨b_more, Int.le_refl 0, by simp only; omega, by simp only; omega⟩
  have gt : GoodT (grownP 30 (picks, 0, ()) newT).1 := good_grown newT_good
  generalize (grownP 30 (picks, 0, ()) newT).1 = t at gt ⊢
  refine fun m => ⟨o1, fun m1 => ⟨o2, pathP_ok o2, fun m2 => ?_⟩⟩
  have hinj := path_inj (p := (more, 0, ())) (q := (pathP (more, 0, ())).2)
  have hs1 := pathP_small (more, 0, ())
  have hs2 := pathP_small (pathP (more, 0, ())).2
  generalize (pathP (pathP (more, 0, ())).2).1 = p at hinj hs2 ⊢
  generalize (pathP (more, 0, ())).1 = f at hinj hs1 ⊢
  have c1 : fitT t := gt.fit
  have c2 : t.length = 9 := gt.len
  have c3 : allDeep t := gt.deep
  have d1 : fitT (moveT t f p false).1 := (good_moveT gt f p false).fit
  have d2 : (moveT t f p false).1.length = 9 := (good_moveT gt f p false).len
  have d3 : allDeep (moveT t f p false).1 := (good_moveT gt f p false).deep
  have e1 : f.size ≤ 4000000000 := by omega
  have e2 : f.size ≤ 1000000000 := by omega
  have e3 : p.size ≤ 4000000000 := by omega
  have e4 : p.size ≤ 1000000000 := by omega
  by_cases he : (moveT t f p false).2 = 0
  case neg =>
    have hx : (moveT t f p false).1 = t := moveT_err he
    simp (implicitDefEqProofs := false) (decide := true) (maxSteps := 4000000) [ini, g_rfindT, rfindTC_eq, c1, e1]
    intro m3
    simp (implicitDefEqProofs := false) (decide := true) (maxSteps := 4000000) [ini, g_emove, emoveC_eq, c1, c2, c3, e2, e4]
    refine br_intro (fun _ => ?_) (fun h => absurd (by simpa using h) he)
    intro m4 _
    simp (implicitDefEqProofs := false) (decide := true) (maxSteps := 4000000) [ini, g_rsameT6, rsameT6C_eq, hx]
  by_cases hfp : f = p
  case pos =>
    subst hfp
    have hx : (moveT t f f false).1 = t := by
      obtain ⟨_, _, _, _, _, _, h⟩ := moveT_out he
      rcases h with h | h
      · exact h.2.2
      · exact absurd ⟨rfl, rfl⟩ h.1
    simp (implicitDefEqProofs := false) (decide := true) (maxSteps := 4000000) [ini, g_rfindT, rfindTC_eq, c1, e1]
    intro m3
    simp (implicitDefEqProofs := false) (decide := true) (maxSteps := 4000000) [ini, g_emove, emoveC_eq, c1, c2, c3, e2, e4]
    refine br_intro (fun h => absurd he (by simpa using h)) (fun _ => ?_)
    intro m4
    simp (implicitDefEqProofs := false) (decide := true) (maxSteps := 4000000) [ini, g_rsameT6, rsameT6C_eq, hx]
  obtain ⟨h1, h2, h3, h4, h5, h6⟩ := moves_law gt he (fun h => hfp (hinj (moveT_out he).1 (moveT_out he).2.1 h))
  have hfb : ¬ f.toList = p.toList := fun e => hfp (bl_inj (by rw [← toList_bl, ← toList_bl]; exact e))
  simp (implicitDefEqProofs := false) (decide := true) (maxSteps := 4000000) [ini, g_rfindT, rfindTC_eq, c1, e1]
  intro m3
  simp (implicitDefEqProofs := false) (decide := true) (maxSteps := 4000000) [ini, g_emove, emoveC_eq, c1, c2, c3, e2, e4]
  refine br_intro (fun h => absurd he (by simpa using h)) (fun _ => br_intro (fun h => absurd (by simpa using h) hfb) (fun _ => ?_))
  intro m4
  simp (implicitDefEqProofs := false) (decide := true) (maxSteps := 4000000) [ini, g_rfindT, rfindTC_eq, d1, e1, e3, h1, h2]
  intro m5
  have y1 : rowy emoveC = false := by decide
  have y2 : rowy rsameT6C = false := by decide
  simp (implicitDefEqProofs := false) (decide := true) (maxSteps := 4000000) [ini, g_emove, emoveC_eq, d1, d2, d3, e2, e4, h3, c2]
  simp (implicitDefEqProofs := false) (decide := false) (maxSteps := 4000000) [ini, g_rsameT6, rsameT6C_eq, d2, c2, y2]
  have hwr : IntKind.i64.wrap ((findT t f false).1 - 1) = (findT t f false).1 - 1 := i64_in _ (by omega)
  have hn : ∀ u : List Node, nodeT u (findT t f false).1 = u[((findT t f false).1 - 1).toNat]?.getD (0, 0, { data := #[] }, ()) := fun u => by
    unfold nodeT
    rw [List.getD_eq_getElem?_getD]; rfl
  rw [hn, hn] at h4
  refine ⟨by rw [hwr]; omega, by decide, by decide, indep_fast (by decide +kernel), ?_⟩
  rw [hwr, h4]
  exact same_refl (t := NodeT) (by decide) _
end Go.Proofs.YtodkmhamaahjmaaGreatDoor
