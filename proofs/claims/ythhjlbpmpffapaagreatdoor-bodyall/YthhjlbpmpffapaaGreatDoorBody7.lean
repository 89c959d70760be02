/- glacislaw10: what its statements begin with. -/
import Derived.Test.YthhjlbpmpffapaaGreatDoorBody6
import Derived.Test.YthhjlbpmpffapaaGreatDoorRef6f
set_option maxRecDepth 100000
set_option maxHeartbeats 4000000
set_option linter.unusedSimpArgs false
set_option linter.unusedVariables false
set_option pp.deepTerms.threshold 30
namespace Go.Proofs.YthhjlbpmpffapaaGreatDoor
open Go.Tm Go.IntWalk
/-- The contract of glacislaw10.begun. -/
def ybegunC : Con := conN [] fun _ => some ⟨.val ⟨.bool, true⟩, []⟩
theorem ybegunC_eq  : ybegunC [] = some ⟨.val ⟨.bool, true⟩, []⟩ := conN_mk (ks := []) (())
def Γybegun : Cons := cons [(28, rnewTC), (27, rmakeTC), (13, bwriteC), (11, breadC), (16, bcutC), (20, bstatC), (22, blistC), (18, bmodeC)]
theorem ybegun_ex  : Ex tab Γybegun (Tryz.f5.body.getD .skip) (EndsF tab Tryz.f5.results.toList [] ⟨.val ⟨.bool, true⟩, []⟩) (ini []) := by
  have g_rnewT : Γybegun 28 = some rnewTC := rfl
  have g_rmakeT : Γybegun 27 = some rmakeTC := rfl
  have g_bwrite : Γybegun 13 = some bwriteC := rfl
  have g_bread : Γybegun 11 = some breadC := rfl
  have g_bcut : Γybegun 16 = some bcutC := rfl
  have g_bstat : Γybegun 20 = some bstatC := rfl
  have g_blist : Γybegun 22 = some blistC := rfl
  have g_bmode : Γybegun 18 = some bmodeC := rfl
  simp only [Tryz.f5, Option.getD_some]
  simp (implicitDefEqProofs := false) (decide := true) (maxSteps := 4000000) [ini, g_rnewT, rnewTC_eq, g_rmakeT, rmakeTC_eq, g_bwrite, bwriteC_eq, g_bread, breadC_eq, g_bcut, bcutC_eq, g_bstat, bstatC_eq, g_blist, blistC_eq, g_bmode, bmodeC_eq]
  simp only [toList_bl]
  exact ⟨by decide +kernel, by decide +kernel⟩
theorem ybegun_ok : ConOK Tryz.prog 5 ybegunC := by
  refine con_ok tab_ok (Γ := Γybegun) (consOK_cons rnewT_ok (consOK_cons rmakeT_ok (consOK_cons bwrite_ok (consOK_cons bread_ok (consOK_cons bcut_ok (consOK_cons bstat_ok (consOK_cons blist_ok (consOK_cons bmode_ok consOK_nil)))))))) (by kernel_rfl) Tryz.func5 (by kernel_rfl) ?_
  intro args out h
  obtain ⟨x, e, h1⟩ := conN_inv h
  clear h
  subst e
  replace h1 : (some ⟨.val ⟨.bool, true⟩, []⟩) = some out := h1
  injection h1 with h1
  subst h1
  exact ⟨by rw [mkArgs_len]; decide, ybegun_ex⟩
/-- The contract of glacisref6.SameTree. -/
def rsameT6C : Con := conN [(.v, TreeT), (.v, TreeT)] fun (a, b, _) => some ⟨.val ⟨.bool, decide (a = b)⟩, []⟩
theorem rsameT6C_eq {a : Ty.den (TreeT)} {b : Ty.den (TreeT)} : rsameT6C [.val ⟨TreeT, a⟩, .val ⟨TreeT, b⟩] = some ⟨.val ⟨.bool, decide (a = b)⟩, []⟩ := conN_mk (ks := [(.v, TreeT), (.v, TreeT)]) (a, b, ())
def ΓrsameT6 : Cons := cons []
theorem rsameT6_ex (a : Ty.den (TreeT)) (b : Ty.den (TreeT)) : Ex tab ΓrsameT6 (Tryz.f15.body.getD .skip) (EndsF tab Tryz.f15.results.toList [.val ⟨TreeT, a⟩, .val ⟨TreeT, b⟩] ⟨.val ⟨.bool, decide (a = b)⟩, []⟩) (ini [.val ⟨TreeT, a⟩, .val ⟨TreeT, b⟩]) := by
  simp only [Tryz.f15, Option.getD_some]
  simp (implicitDefEqProofs := false) (decide := true) (maxSteps := 4000000) [ini]
  intro hla hlb
  have hla : a.length ≤ 9223372036854775807 := hla
  refine br_intro (fun h e => by rw [e] at h; simp at h) fun h => ?_
  have hl : a.length = b.length := Int.ofNat.inj (by simpa using h)
  refine ex_loopU (σ := Nat) [4, 5, 11, 12, 13, 14, 15, 16, 17, 18, 19, 20, 21, 22, 23, 24, 25] (fun s => [(5, .val (.int .i64) (s : Int))]) (fun s => s ≤ a.length ∧ a.take s = b.take s) (fun s => a.length - s) 0 ⟨by simp, by simp⟩ (hc rfl hn) ?_
  rintro j i ⟨hi, he⟩
  simp (implicitDefEqProofs := false) (decide := true) [ini]
  intro _
  refine br_dec (fun hlt => ⟨hlt, by omega, br_intro (fun h e => ?_) fun h => ⟨i + 1, ⟨by omega, ?_⟩, by omega, w_nat rfl (by omega)⟩⟩) fun hge => ?_
  · rw [e, same_refl (t := NodeT) (by decide)] at h; cases h
  · have h : a[i]?.getD ((0, 0, { data := #[] }, ()) : Node) = b[i]?.getD ((0, 0, { data := #[] }, ()) : Node) := same_eq (t := NodeT) (by decide) (not_f h)
    rw [List.getElem?_eq_getElem hlt, List.getElem?_eq_getElem (by omega)] at h
    rw [List.take_succ_eq_append_getElem hlt, List.take_succ_eq_append_getElem (by omega), he]
    simp only [Option.getD_some] at h
    rw [h]
  · obtain rfl : i = a.length := by omega
    rw [List.take_length, hl, List.take_length] at he
    exact he
theorem rsameT6_ok : ConOK Tryz.prog 15 rsameT6C := by
  refine con_ok tab_ok (Γ := ΓrsameT6) consOK_nil (by kernel_rfl) Tryz.func15 (by kernel_rfl) ?_
  intro args out h
  obtain ⟨x, e, h1⟩ := conN_inv h
  clear h
  obtain ⟨a, b, x0⟩ := x
  subst e
  replace h1 : (some ⟨.val ⟨.bool, decide (a = b)⟩, []⟩) = some out := h1
  injection h1 with h1
  subst h1
  exact ⟨by rw [mkArgs_len]; decide, rsameT6_ex a b⟩
end Go.Proofs.YthhjlbpmpffapaaGreatDoor
