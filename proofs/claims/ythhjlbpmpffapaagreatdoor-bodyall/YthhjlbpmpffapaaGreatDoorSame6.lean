/- glacisref6.SameEntries, walked. -/
import Derived.Test.YthhjlbpmpffapaaGreatDoorPDir
import Derived.Test.YthhjlbpmpffapaaGreatDoorPBase
import Derived.Test.YthhjlbpmpffapaaGreatDoorTab
set_option maxRecDepth 100000
set_option maxHeartbeats 1000000
set_option linter.unusedSimpArgs false
set_option linter.unusedVariables false
set_option pp.deepTerms.threshold 16
namespace Go.Proofs.YthhjlbpmpffapaaGreatDoor
open Go.Tm Go.IntWalk
/-- The contract of glacisref6.SameEntries. -/
def rsame6C : Con := conN [(.v, .slice EntT), (.v, .slice EntT)] fun (a, b, _) => some ⟨.val ⟨.bool, decide (a = b)⟩, []⟩
theorem rsame6C_eq {a : List (Ty.den (EntT))} {b : List (Ty.den (EntT))} : rsame6C [.val ⟨.slice EntT, a⟩, .val ⟨.slice EntT, b⟩] = some ⟨.val ⟨.bool, decide (a = b)⟩, []⟩ := conN_mk (ks := [(.v, .slice EntT), (.v, .slice EntT)]) (a, b, ())
def Γrsame6 : Cons := cons []
theorem rsame6_ex (a : List (Ty.den (EntT))) (b : List (Ty.den (EntT))) : Ex tab Γrsame6 (Tryz.f24.body.getD .skip) (EndsF tab Tryz.f24.results.toList [.val ⟨.slice EntT, a⟩, .val ⟨.slice EntT, b⟩] ⟨.val ⟨.bool, decide (a = b)⟩, []⟩) (ini [.val ⟨.slice EntT, a⟩, .val ⟨.slice EntT, b⟩]) := by
  simp only [Tryz.f24, Option.getD_some]
  simp (implicitDefEqProofs := false) (decide := true) (maxSteps := 4000000) [ini]
  intro hla hlb
  have hla : a.length ≤ 9223372036854775807 := hla
  refine br_intro (fun h e => by rw [e] at h; simp at h) fun h => ?_
  have hl : a.length = b.length := Int.ofNat.inj (by simpa using h)
  refine ex_loopU (σ := Nat) [4, 5, 11, 12, 13, 14, 15, 16, 17, 18, 19, 20, 21, 22, 23, 24, 25] (fun s => [(5, .val (.int .i64) (s : Int))]) (fun s => s ≤ a.length ∧ a.take s = b.take s) (fun s => a.length - s) 0 ⟨by simp, by simp⟩ (hc rfl hn) ?_
  rintro j i ⟨hi, he⟩
  simp (implicitDefEqProofs := false) (decide := true) [ini]
  intro _
  refine br_dec (fun hlt => ⟨hlt, by omega, br_intro (fun h e => ?_) fun h => ⟨i + 1, ⟨by omega, ?_⟩, by omega, w_nat rfl (by omega)⟩⟩) fun hge => ?_
  · rw [e, same_refl (t := EntT) (by decide)] at h; cases h
  · have h : a[i]?.getD (({ data := #[] }, 0, ()) : Ent) = b[i]?.getD (({ data := #[] }, 0, ()) : Ent) := same_eq (t := EntT) (by decide) (not_f h)
    rw [List.getElem?_eq_getElem hlt, List.getElem?_eq_getElem (by omega)] at h
    rw [List.take_succ_eq_append_getElem hlt, List.take_succ_eq_append_getElem (by omega), he]
    simp only [Option.getD_some] at h
    rw [h]
  · obtain rfl : i = a.length := by omega
    rw [List.take_length, hl, List.take_length] at he
    exact he
theorem rsame6_ok : ConOK Tryz.prog 24 rsame6C := by
  refine con_ok tab_ok (Γ := Γrsame6) consOK_nil (by kernel_rfl) Tryz.func24 (by kernel_rfl) ?_
  intro args out h
  obtain ⟨x, e, h1⟩ := conN_inv h
  clear h
  obtain ⟨a, b, x0⟩ := x
  subst e
  replace h1 : (some ⟨.val ⟨.bool, decide (a = b)⟩, []⟩) = some out := h1
  injection h1 with h1
  subst h1
  exact ⟨by rw [mkArgs_len]; decide, rsame6_ex a b⟩
end Go.Proofs.YthhjlbpmpffapaaGreatDoor
