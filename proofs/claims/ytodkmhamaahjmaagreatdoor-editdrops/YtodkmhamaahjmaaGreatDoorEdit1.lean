/- glacislaw9: what its statements begin with. -/
import Derived.Test.YtodkmhamaahjmaaGreatDoorG13
import Derived.Test.YtodkmhamaahjmaaGreatDoorG14
import Derived.Test.YtodkmhamaahjmaaGreatDoorG15
set_option maxRecDepth 100000
set_option maxHeartbeats 4000000
set_option linter.unusedSimpArgs false
set_option linter.unusedVariables false
set_option pp.deepTerms.threshold 30
namespace Go.Proofs.YtodkmhamaahjmaaGreatDoor
open Go.Tm Go.IntWalk
def g1 : List Node := (makeT newT ⟨#[47, 97]⟩ 1 6 0 false).1
def g2 : List Node := (linkT g1 ⟨#[47, 97]⟩ ⟨#[47, 98]⟩ false).1
noncomputable def g3 : List Node := (moveT g2 ⟨#[47, 98]⟩ ⟨#[47, 99]⟩ false).1
def g3c : List Node := (putT (dropT g2 1 ⟨#[98]⟩) 1 (⟨#[99]⟩, 2, ())).1
theorem g3_eq : moveT g2 ⟨#[47, 98]⟩ ⟨#[47, 99]⟩ false = (g3c, 0) :=
  moveT_eq (n := 2) (U := 1) (W := 1) (nu := ⟨#[98]⟩) (nw := ⟨#[99]⟩) (by decide +kernel) (by decide +kernel) (by decide +kernel) (by decide) (by decide +kernel) (by decide +kernel) (by decide +kernel) (by decide +kernel) (by decide +kernel) (fun h => absurd h.1 (by decide +kernel)) (by decide +kernel)
/-- The contract of glacislaw9.begun. -/
noncomputable def zbegunC : Con := conN [] fun _ => some ⟨.val ⟨.bool, true⟩, []⟩
theorem zbegunC_eq  : zbegunC [] = some ⟨.val ⟨.bool, true⟩, []⟩ := conN_mk (ks := []) (())
noncomputable def Γzbegun : Cons := cons [(22, rnewTC), (13, emakeC), (16, elinkC), (18, emoveC), (20, edropC), (26, rfindTC)]
theorem zbegun_ex  : Ex tab Γzbegun (Tryz.f8.body.getD .skip) (EndsF tab Tryz.f8.results.toList [] ⟨.val ⟨.bool, true⟩, []⟩) (ini []) := by
  have g_rnewT : Γzbegun 22 = some rnewTC := rfl
  have g_emake : Γzbegun 13 = some emakeC := rfl
  have g_elink : Γzbegun 16 = some elinkC := rfl
  have g_emove : Γzbegun 18 = some emoveC := rfl
  have g_edrop : Γzbegun 20 = some edropC := rfl
  have g_rfindT : Γzbegun 26 = some rfindTC := rfl
  simp only [Tryz.f8, Option.getD_some]
  simp (implicitDefEqProofs := false) (decide := true) (maxSteps := 4000000) [ini, g_rnewT, rnewTC_eq, g_emake, emakeC_eq, g_elink, elinkC_eq, g_emove, emoveC_eq, g_edrop, edropC_eq, g_rfindT, rfindTC_eq]
  exact (good_linkT (good_makeT newT_good _ _ _ _ _) _ _ _).deep
theorem zbegun_ok : ConOK Tryz.prog 8 zbegunC := by
  refine con_ok tab_ok (Γ := Γzbegun) (consOK_cons rnewT_ok (consOK_cons emake_ok (consOK_cons elink_ok (consOK_cons emove_ok (consOK_cons edrop_ok (consOK_cons rfindT_ok consOK_nil)))))) (by kernel_rfl) Tryz.func8 (by kernel_rfl) ?_
  intro args out h
  obtain ⟨x, e, h1⟩ := conN_inv h
  clear h
  subst e
  replace h1 : (some ⟨.val ⟨.bool, true⟩, []⟩) = some out := h1
  injection h1 with h1
  subst h1
  exact ⟨by rw [mkArgs_len]; decide, zbegun_ex⟩
end Go.Proofs.YtodkmhamaahjmaaGreatDoor
