/- diff: what is asked first. -/
import Derived.Test.YtahefjfkfmoplaaDiff2
import Derived.Test.YtahefjfkfmoplaaDiff4
import Derived.Test.YtahefjfkfmoplaaPicksE
set_option maxRecDepth 10000
set_option maxHeartbeats 2000000
set_option linter.unusedSimpArgs false
set_option linter.unusedVariables false
set_option pp.deepTerms.threshold 20
namespace Go.Proofs.Ytahefjfkfmoplaa
open Go.Tm Go.IntWalk

def w1T : List Node := (2, 7, ⟨#[1, 97, 2]⟩, ()) :: (1, 6, no, ()) :: List.replicate 7 dfltN
def w2T : List Node := (2, 7, ⟨#[1, 97, 2]⟩, ()) :: (1, 9, no, ()) :: List.replicate 7 dfltN
theorem wb_make : makeT newT ⟨#[47, 97]⟩ 1 6 0 false = (w1T, 0) := by decide +kernel
theorem wb_mode : modeT w1T ⟨#[47, 97]⟩ 9 false = (w2T, 0) := by decide +kernel
theorem wb_ent : entD w1T = [(1, ⟨#[97]⟩, 2, ())] := by decide +kernel
theorem wb_g1 : (goneD w1T newT).length = 1 := by decide +kernel
theorem wb_g2 : (goneD newT w1T).length = 0 := by decide +kernel
theorem wb_d1 : (deadD w1T newT).length = 1 := by decide +kernel
theorem wb_c1 : (chgD w1T w2T).length = 1 := by decide +kernel
theorem wb_c2 : (chgD w1T w1T).length = 0 := by decide +kernel
theorem fit1 : fitT w1T := ⟨by decide, by decide⟩
theorem fit0 : fitT newT := ⟨by decide, by decide⟩
theorem fit2 : fitT w2T := ⟨by decide, by decide⟩
theorem newT_len : newT.length = 9 := rfl
theorem w1T_len : w1T.length = 9 := rfl
theorem w2T_len : w2T.length = 9 := rfl
theorem wb_ent1 : (entD w1T).length = 1 := by rw [wb_ent]; rfl
/-- The contract of glacislaw20.begun. -/
def wbegunC : Con := conN [] fun _ => some ⟨.val ⟨.bool, true⟩, []⟩
theorem wbegunC_eq  : wbegunC [] = some ⟨.val ⟨.bool, true⟩, []⟩ := conN_mk (ks := []) (())
def Γwbegun : Cons := cons [(27, rnewTC), (28, rmakeTC), (31, rmodeTC), (14, dentriesC), (16, dgoneC), (19, ddeadC), (21, dmadeC), (23, dchangedC)]
theorem wbegun_ex  : Ex tab Γwbegun (Try.f9.body.getD .skip) (EndsF tab Try.f9.results.toList [] ⟨.val ⟨.bool, true⟩, []⟩) (ini []) := by
  have g_rnewT : Γwbegun 27 = some rnewTC := rfl
  have g_rmakeT : Γwbegun 28 = some rmakeTC := rfl
  have g_rmodeT : Γwbegun 31 = some rmodeTC := rfl
  have g_dentries : Γwbegun 14 = some dentriesC := rfl
  have g_dgone : Γwbegun 16 = some dgoneC := rfl
  have g_ddead : Γwbegun 19 = some ddeadC := rfl
  have g_dmade : Γwbegun 21 = some dmadeC := rfl
  have g_dchanged : Γwbegun 23 = some dchangedC := rfl
  simp only [Try.f9, Option.getD_some]
  simp (implicitDefEqProofs := false) (decide := true) (maxSteps := 4000000) [ini, g_rnewT, rnewTC_eq, g_rmakeT, rmakeTC_eq, g_rmodeT, rmodeTC_eq, g_dentries, dentriesC_eq, g_dgone, dgoneC_eq, g_ddead, ddeadC_eq, g_dmade, dmadeC_eq, g_dchanged, dchangedC_eq, wb_make, wb_mode, wb_ent, wb_g1, wb_g2, wb_d1, wb_c1, wb_c2, fit0, fit1, fit2, newT_len, w1T_len, w2T_len]
  exact same_refl (t := EnT) (by decide) _
theorem wbegun_ok : ConOK Try.prog 9 wbegunC := by
  refine con_ok tab_ok (Γ := Γwbegun) (consOK_cons rnewT_ok (consOK_cons rmakeT_ok (consOK_cons rmodeT_ok (consOK_cons dentries_ok (consOK_cons dgone_ok (consOK_cons ddead_ok (consOK_cons dmade_ok (consOK_cons dchanged_ok consOK_nil)))))))) (by kernel_rfl) Try.func9 (by kernel_rfl) ?_
  intro args out h
  obtain ⟨x, e, h1⟩ := conN_inv h
  clear h
  subst e
  replace h1 : (some ⟨.val ⟨.bool, true⟩, []⟩) = some out := h1
  injection h1 with h1
  subst h1
  exact ⟨by rw [mkArgs_len]; decide, wbegun_ex⟩
/-- What good trees are for the contracts. -/
theorem good_fit {t : List Node} (h : GoodT t) : fitT t := by
  refine ⟨by rw [h.len]; decide, fun n hn => ?_⟩
  obtain ⟨k, hk, rfl⟩ := List.getElem_of_mem hn
  have h9 := h.len
  have := h.body ((k + 1 : Nat) : Int) (by omega) (by omega)
  have e : bodyT t ((k + 1 : Nat) : Int) = (t[k]).2.2.1 := by
    rw [bodyT, nodeT, show (((k + 1 : Nat) : Int) - 1).toNat = k by omega, List.getD_eq_getElem?_getD, List.getElem?_eq_getElem hk]
    rfl
  rw [e] at this
  exact Nat.le_trans this (by decide)
/-- Nothing differs between a tree and itself. -/
theorem sameD_self (t : List Node) (n : Int) : sameD ((t, ()), (t, ()), ()) n = !(kindD t n == 0) := by
  have key : ∀ x : Int, (decide (x ≠ 0) && decide (x = x)) = !(x == 0) := fun x => by by_cases h : x = 0 <;> simp [h]
  exact key (kindD t n)
theorem ent_kinds {t : List Node} (h : GoodT t) {e : En} (he : e ∈ entD t) : kindT t e.1 = 2 ∧ 1 ≤ e.1 ∧ e.1 ≤ 9 ∧ kindT t e.2.2.1 ≠ 0 ∧ 1 ≤ e.2.2.1 ∧ e.2.2.1 ≤ 9 := by
  obtain ⟨k, x, hk, hx, rfl⟩ := entN_mem he
  have h9 := h.len
  have h2 := (okE_out (namesT_ok hx)).2
  refine ⟨?_, ?_, ?_, h.there _ _ hx, h2.1, h2.2⟩
  · unfold namesT at hx
    split at hx
    · cases hx
    · rename_i hn
      exact Classical.byContradiction fun hc => hn (.inr (.inr hc))
  · show (1 : Int) ≤ ((k + 1 : Nat) : Int); omega
  · show ((k + 1 : Nat) : Int) ≤ 9; omega
theorem kindD_9 {t : List Node} (h : GoodT t) {i : Int} (h1 : 1 ≤ i) (h2 : i ≤ 9) : kindD t i = kindT t i := by
  have h9 := h.len
  rw [kindD, if_neg (by omega)]
theorem gone_self {t : List Node} (h : GoodT t) : goneD t t = [] := by
  refine List.filter_eq_nil_iff.2 fun e he => ?_
  obtain ⟨k1, k2, k3, k4, k5, k6⟩ := ent_kinds h he
  have hany : ((entD t).any fun x => same EnT e x) = true := List.any_eq_true.2 ⟨e, he, same_refl (t := EnT) (by decide) e⟩
  rw [keptD, sameD_self, sameD_self, kindD_9 h k2 k3, kindD_9 h k5 k6, k1, hany]
  have : (kindT t e.2.2.1 == 0) = false := beq_eq_false_iff_ne.2 k4
  rw [this]
  decide
theorem dead_self {t : List Node} (h : GoodT t) : deadD t t = [] := by
  unfold deadD deadN
  rw [List.map_eq_nil_iff]
  refine List.filter_eq_nil_iff.2 fun k hk => ?_
  rw [deadP_eq (List.mem_range.1 hk) rfl]
  simp
theorem chg_self {t : List Node} : chgD t t = [] := by
  unfold chgD chgN
  rw [List.map_eq_nil_iff]
  refine List.filter_eq_nil_iff.2 fun k hk => ?_
  simp [chgP]
theorem chg_comm {t u : List Node} (h : t.length = u.length) : chgD t u = chgD u t := by
  unfold chgD chgN
  rw [h]
  congr 1
  refine List.filter_congr fun k hk => ?_
  have hk : k < u.length := List.mem_range.1 hk
  have k1 : kindD t ((k + 1 : Nat) : Int) = (t.getD k dfltN).1 := by
    rw [kindD_in (by omega) (by omega), List.getD_eq_getElem?_getD, show (((k + 1 : Nat) : Int) - 1).toNat = k by omega]
  have k2 : kindD u ((k + 1 : Nat) : Int) = (u.getD k dfltN).1 := by
    rw [kindD_in (by omega) (by omega), List.getD_eq_getElem?_getD, show (((k + 1 : Nat) : Int) - 1).toNat = k by omega]
  unfold chgP sameD
  simp only
  rw [k1, k2]
  generalize t.getD k dfltN = x
  generalize u.getD k dfltN = y
  have key : ∀ (a b c d : Int) (p q : List UInt8), ((decide (a ≠ 0) && decide (a = b)) && (!(c == d) || (a == 1 && !(p == q)))) = ((decide (b ≠ 0) && decide (b = a)) && (!(d == c) || (b == 1 && !(q == p)))) := fun a b c d p q => by
    by_cases h1 : a = b
    · subst h1
      rw [show (c == d) = (d == c) from Bool.beq_comm, show (p == q) = (q == p) from Bool.beq_comm]
    · rw [decide_eq_false (p := a = b) h1, decide_eq_false (p := b = a) (fun h => h1 h.symm)]
      simp
  exact key _ _ _ _ _ _
end Go.Proofs.Ytahefjfkfmoplaa
