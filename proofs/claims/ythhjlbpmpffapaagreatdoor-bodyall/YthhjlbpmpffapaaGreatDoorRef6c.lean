/- The reference's folders and trees, walked. -/
import Derived.Test.YthhjlbpmpffapaaGreatDoorRef6w
import Derived.Test.YthhjlbpmpffapaaGreatDoorPTree
set_option maxRecDepth 100000
set_option maxHeartbeats 1000000
set_option linter.unusedSimpArgs false
set_option linter.unusedVariables false
set_option pp.deepTerms.threshold 60
namespace Go.Proofs.YthhjlbpmpffapaaGreatDoor
open Go.Tm Go.IntWalk
/-- The contract of glacisref6.Names. -/
def rnamesC : Con := conN [(.v, TreeT), (.v, .int .i64)] fun (t, i, _) => if fitT t then some ⟨.val ⟨.slice EntT, namesT t i⟩, []⟩ else none
theorem rnamesC_eq {t : Ty.den (TreeT)} {i : Int} : rnamesC [.val ⟨TreeT, t⟩, .val ⟨.int .i64, i⟩] = if fitT t then some ⟨.val ⟨.slice EntT, namesT t i⟩, []⟩ else none := conN_mk (ks := [(.v, TreeT), (.v, .int .i64)]) (t, i, ())
def Γrnames : Cons := cons [(57, rtakeDC)]
theorem rnames_ex (t : Ty.den (TreeT)) (i : Int) (hr : fitT t) : Ex tab Γrnames (Tryz.f40.body.getD .skip) (EndsF tab Tryz.f40.results.toList [.val ⟨TreeT, t⟩, .val ⟨.int .i64, i⟩] ⟨.val ⟨.slice EntT, namesT t i⟩, []⟩) (ini [.val ⟨TreeT, t⟩, .val ⟨.int .i64, i⟩]) := by
  have g_rtakeD : Γrnames 57 = some rtakeDC := rfl
  simp only [Tryz.f40, Option.getD_some]
  simp (implicitDefEqProofs := false) (decide := true) (maxSteps := 4000000) [ini, g_rtakeD, rtakeDC_eq]
  have hb := fit_body hr i
  refine br_dec (fun h => ?_) fun h1 hl => br_dec (fun h => ?_) fun h2 => ?_
  · rw [namesT, if_pos (.inl h)]
  · rw [namesT, if_pos (.inr (.inl h))]
  have w1 : IntKind.i64.wrap (i - 1) = i - 1 := i64_in _ (by have : t.length ≤ 1000 := hr.1; omega)
  rw [w1]
  have hg : t[(i - 1).toNat]?.getD ((0, 0, no, ()) : Node) = nodeT t i := by unfold nodeT; rw [List.getD_eq_getElem?_getD]; rfl
  rw [show t[(i - 1).toNat]?.getD ((0, 0, { data := #[] }, ()) : Node) = nodeT t i from hg]
  refine ⟨⟨by omega, by omega⟩, br_intro (fun h => ?_) fun h3 => ⟨⟨by omega, by omega⟩, hb, ?_⟩⟩
  · rw [namesT, if_pos (.inr (.inr (by unfold kindT; simpa using h)))]
  · rw [namesT, if_neg (by
      rintro (h | h | h)
      · exact h1 h
      · exact h2 h
      · apply h; unfold kindT; simpa using h3)]
    rfl
theorem rnames_ok : ConOK Tryz.prog 40 rnamesC := by
  refine con_ok tab_ok (Γ := Γrnames) (consOK_cons rtakeD_ok consOK_nil) (by kernel_rfl) Tryz.func40 (by kernel_rfl) ?_
  intro args out h
  obtain ⟨x, e, h1⟩ := conN_inv h
  clear h
  obtain ⟨t, i, x0⟩ := x
  subst e
  replace h1 : (if fitT t then some ⟨.val ⟨.slice EntT, namesT t i⟩, []⟩ else none) = some out := h1
  split at h1
  case isFalse => cases h1
  rename_i hr
  injection h1 with h1
  subst h1
  exact ⟨by rw [mkArgs_len]; decide, rnames_ex t i hr⟩
/-- The contract of glacisref6.NewTree. -/
def rnewTC : Con := conN [] fun _ => some ⟨.val ⟨TreeT, newT⟩, []⟩
theorem rnewTC_eq  : rnewTC [] = some ⟨.val ⟨TreeT, newT⟩, []⟩ := conN_mk (ks := []) (())
def ΓrnewT : Cons := cons []
theorem rnewT_ex  : Ex tab ΓrnewT (Tryz.f28.body.getD .skip) (EndsF tab Tryz.f28.results.toList [] ⟨.val ⟨TreeT, newT⟩, []⟩) (ini []) := by
  simp only [Tryz.f28, Option.getD_some]
  simp (implicitDefEqProofs := false) (decide := true) (maxSteps := 4000000) [ini]
theorem rnewT_ok : ConOK Tryz.prog 28 rnewTC := by
  refine con_ok tab_ok (Γ := ΓrnewT) consOK_nil (by kernel_rfl) Tryz.func28 (by kernel_rfl) ?_
  intro args out h
  obtain ⟨x, e, h1⟩ := conN_inv h
  clear h
  subst e
  replace h1 : (some ⟨.val ⟨TreeT, newT⟩, []⟩) = some out := h1
  injection h1 with h1
  subst h1
  exact ⟨by rw [mkArgs_len]; decide, rnewT_ex⟩
/-- The contract of glacisref6.with. -/
def rset6C : Con := conN [(.v, TreeT), (.v, .int .i64), (.v, NodeT)] fun (t, i, n, _) => if fitT t ∧ 1 ≤ i ∧ i ≤ (t.length : Int) then some ⟨.val ⟨TreeT, setT t i n⟩, []⟩ else none
theorem rset6C_eq {t : Ty.den (TreeT)} {i : Int} {n : Ty.den (NodeT)} : rset6C [.val ⟨TreeT, t⟩, .val ⟨.int .i64, i⟩, .val ⟨NodeT, n⟩] = if fitT t ∧ 1 ≤ i ∧ i ≤ (t.length : Int) then some ⟨.val ⟨TreeT, setT t i n⟩, []⟩ else none := conN_mk (ks := [(.v, TreeT), (.v, .int .i64), (.v, NodeT)]) (t, i, n, ())
def Γrset6 : Cons := cons []
theorem rset6_ex (t : Ty.den (TreeT)) (i : Int) (n : Ty.den (NodeT)) (hr : fitT t ∧ 1 ≤ i ∧ i ≤ (t.length : Int)) : Ex tab Γrset6 (Tryz.f35.body.getD .skip) (EndsF tab Tryz.f35.results.toList [.val ⟨TreeT, t⟩, .val ⟨.int .i64, i⟩, .val ⟨NodeT, n⟩] ⟨.val ⟨TreeT, setT t i n⟩, []⟩) (ini [.val ⟨TreeT, t⟩, .val ⟨.int .i64, i⟩, .val ⟨NodeT, n⟩]) := by
  simp only [Tryz.f35, Option.getD_some]
  simp (implicitDefEqProofs := false) (decide := true) (maxSteps := 4000000) [ini]
  obtain ⟨⟨h1, h2⟩, h3, h4⟩ := hr
  have w1 : IntKind.i64.wrap (i - 1) = i - 1 := i64_in _ (by omega)
  rw [w1]
  exact ⟨by omega, ⟨by omega, by omega⟩, by omega, rfl⟩
theorem rset6_ok : ConOK Tryz.prog 35 rset6C := by
  refine con_ok tab_ok (Γ := Γrset6) consOK_nil (by kernel_rfl) Tryz.func35 (by kernel_rfl) ?_
  intro args out h
  obtain ⟨x, e, h1⟩ := conN_inv h
  clear h
  obtain ⟨t, i, n, x0⟩ := x
  subst e
  replace h1 : (if fitT t ∧ 1 ≤ i ∧ i ≤ (t.length : Int) then some ⟨.val ⟨TreeT, setT t i n⟩, []⟩ else none) = some out := h1
  split at h1
  case isFalse => cases h1
  rename_i hr
  injection h1 with h1
  subst h1
  exact ⟨by rw [mkArgs_len]; decide, rset6_ex t i n hr⟩
end Go.Proofs.YthhjlbpmpffapaaGreatDoor
