/- name: what is asked first. -/
import Derived.Test.YtecijnlpickncaaDoorName2
import Derived.Test.YtecijnlpickncaaDoorPicksP
set_option maxRecDepth 10000
set_option maxHeartbeats 4000000
set_option linter.unusedSimpArgs false
set_option linter.unusedVariables false
set_option pp.deepTerms.threshold 30
namespace Go.Proofs.YtecijnlpickncaaDoor
open Go.Tm Go.IntWalk
attribute [-instance] Go.Tm.instDecidableIndep
theorem nb1 : partsS ⟨#[47, 97, 47, 98]⟩ false = ([⟨#[97]⟩, ⟨#[98]⟩], true) := by decide +kernel
theorem nb2 : pathS [⟨#[97]⟩, ⟨#[98]⟩] = ⟨#[47, 97, 47, 98]⟩ := by decide +kernel
theorem nb3 : pathS [] = ⟨#[47]⟩ := by decide +kernel
theorem nb4 : (⟨#[47, 97, 47, 98]⟩ : ByteArray).toList = [47, 97, 47, 98] := by decide +kernel
theorem nb5 : (⟨#[98]⟩ : ByteArray).toList = [98] := by decide +kernel
theorem nb6 : (⟨#[47]⟩ : ByteArray).toList = [47] := by decide +kernel
theorem pathP_size (p : Pk) : (pathP p).1.size ≤ 100 := by
  unfold pathP
  simp only
  have h : ∀ x ∈ pathL, x.size ≤ 100 := by decide
  rw [List.getD_eq_getElem?_getD]
  cases e : pathL[(numP p 15).1.toNat]? with
  | none => exact (show (⟨#[]⟩ : ByteArray).size ≤ 100 by decide)
  | some x => exact h x (List.mem_of_getElem? e)
theorem parts_more {s : ByteArray} (h : (partsS s false).2 = true) : (partsS s true) = (partsS s false) := by
  by_cases h0 : bl s = [47]
  · rw [partsS_root h0, partsS_root h0]
  · by_cases hb : ∃ r, bl s = 47 :: r
    · obtain ⟨r, hb⟩ := hb
      have hr : r ≠ [] := fun e => h0 (by rw [hb, e])
      rw [partsS_way hb hr] at h
      split at h
      · rename_i hx
        have hall : ∀ x ∈ splitB r, partOK true (ofL x) = true := fun x hx2 => by
          have := hx.2 x hx2
          unfold partOK at this ⊢
          rw [Bool.and_eq_true] at this
          rw [this.1]
          rfl
        rw [partsS_way hb hr, partsS_way hb hr, if_pos hx, if_pos ⟨hx.1, hall⟩]
      · cases h
    · rw [partsS_other fun r e => hb ⟨r, e⟩] at h
      cases h
theorem pathS_size {l : List ByteArray} (h : smallL l) : (pathS l).size ≤ 1 + l.length * 2000 := by
  have hj := join_len (l := l) (p := ⟨#[47]⟩) (by decide) h
  have e3 : (⟨#[47]⟩ : ByteArray).data.toList = [47] := rfl
  rw [e3] at hj
  rw [bl_size, pathS_bl, List.length_cons]
  exact Nat.le_trans (Nat.succ_le_succ hj) (by omega)
/-- The contract of glacislaw6.begun. -/
def wbegunC : Con := conN [] fun _ => some ⟨.val ⟨.bool, true⟩, []⟩
theorem wbegunC_eq  : wbegunC [] = some ⟨.val ⟨.bool, true⟩, []⟩ := conN_mk (ks := []) (())
def Γwbegun : Cons := cons [(10, npartsC), (17, npathC), (13, nmayC), (15, downC)]
theorem wbegun_ex  : Ex tab Γwbegun (Tryd.f7.body.getD .skip) (EndsF tab Tryd.f7.results.toList [] ⟨.val ⟨.bool, true⟩, []⟩) (ini []) := by
  have g_nparts : Γwbegun 10 = some npartsC := rfl
  have g_npath : Γwbegun 17 = some npathC := rfl
  have g_nmay : Γwbegun 13 = some nmayC := rfl
  have g_down : Γwbegun 15 = some downC := rfl
  simp only [Tryd.f7, Option.getD_some]
  simp (implicitDefEqProofs := false) (decide := true) (maxSteps := 4000000) [ini, g_nparts, npartsC_eq, g_npath, npathC_eq, g_nmay, nmayC_eq, g_down, downC_eq, nb1, nb2, nb3, nb4, nb5, nb6]
theorem wbegun_ok : ConOK Tryd.prog 7 wbegunC := by
  refine con_ok tab_ok (Γ := Γwbegun) (consOK_cons nparts_ok (consOK_cons npath_ok (consOK_cons nmay_ok (consOK_cons down_ok consOK_nil)))) (by kernel_rfl) Tryd.func7 (by kernel_rfl) ?_
  intro args out h
  obtain ⟨x, e, h1⟩ := conN_inv h
  clear h
  subst e
  replace h1 : (some ⟨.val ⟨.bool, true⟩, []⟩) = some out := h1
  injection h1 with h1
  subst h1
  exact ⟨by rw [mkArgs_len]; decide, wbegun_ex⟩
end Go.Proofs.YtecijnlpickncaaDoor
