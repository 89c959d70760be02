/- Numbers from which choices are read. -/
import Derived.Test.YthhjlbpmpffapaaGreatDoorTab
import Derived.Test.YthhjlbpmpffapaaGreatDoorPStr
set_option maxRecDepth 10000
set_option maxHeartbeats 1000000
set_option linter.unusedSimpArgs false
set_option linter.unusedVariables false
set_option pp.deepTerms.threshold 12
namespace Go.Proofs.YthhjlbpmpffapaaGreatDoor
open Go.Tm Go.IntWalk

abbrev PkT : Ty := .prod (.slice (.int .u8)) (.prod (.int .i64) .unit)
abbrev Pk : Type := List Int × Int × Unit
def okP (p : Pk) : Prop := isB p.1 ∧ 0 ≤ p.2.1 ∧ p.2.1 ≤ p.1.length ∧ p.1.length ≤ 1000000000

instance (p : Pk) : Decidable (okP p) := by unfold okP; infer_instance
def numP (p : Pk) (m : Int) : Int × Pk := if (p.1.length : Int) ≤ p.2.1 ∨ m < 1 then (0, p) else ((p.1.getD p.2.1.toNat 0).tmod m, (p.1, p.2.1 + 1, ()))
theorem numP_ok {p : Pk} (h : okP p) (m : Int) : okP (numP p m).2 := by
  unfold numP
  split
  · exact h
  · obtain ⟨h1, h2, h3, h4⟩ := h
    exact ⟨h1, by simp only; omega, by simp only; omega, h4⟩
theorem numP_lt {p : Pk} (h : okP p) {m : Int} (hm : 1 ≤ m) : 0 ≤ (numP p m).1 ∧ (numP p m).1 < m := by
  unfold numP
  split
  · simp only; omega
  · have h0 := isB_getD h.1 p.2.1.toNat
    exact ⟨Int.tmod_nonneg _ h0.1, Int.tmod_lt_of_pos _ (by omega)⟩
/-- The contract of glacismade.Made. -/
def pmadeC : Con := conN [(.v, .slice (.int .u8))] fun (l, _) => some ⟨.obj PkT (l, 0, ()), []⟩
theorem pmadeC_eq {l : List Int} : pmadeC [.val ⟨.slice (.int .u8), l⟩] = some ⟨.obj PkT (l, 0, ()), []⟩ := conN_mk (ks := [(.v, .slice (.int .u8))]) (l, ())
def Γpmade : Cons := cons []
theorem pmade_ex (l : List Int) : Ex tab Γpmade (Tryz.f6.body.getD .skip) (EndsF tab Tryz.f6.results.toList [.val ⟨.slice (.int .u8), l⟩] ⟨.obj PkT (l, 0, ()), []⟩) (ini [.val ⟨.slice (.int .u8), l⟩]) := by
  simp only [Tryz.f6, Option.getD_some]
  simp (implicitDefEqProofs := false) (decide := true) (maxSteps := 4000000) [ini]
theorem pmade_ok : ConOK Tryz.prog 6 pmadeC := by
  refine con_ok tab_ok (Γ := Γpmade) consOK_nil (by kernel_rfl) Tryz.func6 (by kernel_rfl) ?_
  intro args out h
  obtain ⟨x, e, h1⟩ := conN_inv h
  clear h
  obtain ⟨l, x0⟩ := x
  subst e
  replace h1 : (some ⟨.obj PkT (l, 0, ()), []⟩) = some out := h1
  injection h1 with h1
  subst h1
  exact ⟨by rw [mkArgs_len]; decide, pmade_ex l⟩
/-- The contract of (*glacismade.Picks).Num. -/
def pnumC : Con := conN [(.o, .prod (.slice (.int .u8)) (.prod (.int .i64) .unit)), (.v, .int .i64)] fun (p, m, _) => if okP p then some ⟨.val ⟨.int .i64, (numP p m).1⟩, [⟨PkT, (numP p m).2⟩]⟩ else none
theorem pnumC_eq {p : Ty.den (.prod (.slice (.int .u8)) (.prod (.int .i64) .unit))} {m : Int} : pnumC [.obj ⟨.prod (.slice (.int .u8)) (.prod (.int .i64) .unit), p⟩, .val ⟨.int .i64, m⟩] = if okP p then some ⟨.val ⟨.int .i64, (numP p m).1⟩, [⟨PkT, (numP p m).2⟩]⟩ else none := conN_mk (ks := [(.o, .prod (.slice (.int .u8)) (.prod (.int .i64) .unit)), (.v, .int .i64)]) (p, m, ())
def Γpnum : Cons := cons []
theorem pnum_ex (p : Ty.den (.prod (.slice (.int .u8)) (.prod (.int .i64) .unit))) (m : Int) (hr : okP p) : Ex tab Γpnum (Tryz.f9.body.getD .skip) (EndsF tab Tryz.f9.results.toList [.obj ⟨.prod (.slice (.int .u8)) (.prod (.int .i64) .unit), p⟩, .val ⟨.int .i64, m⟩] ⟨.val ⟨.int .i64, (numP p m).1⟩, [⟨PkT, (numP p m).2⟩]⟩) (ini [.obj ⟨.prod (.slice (.int .u8)) (.prod (.int .i64) .unit), p⟩, .val ⟨.int .i64, m⟩]) := by
  simp only [Tryz.f9, Option.getD_some]
  simp (implicitDefEqProofs := false) (decide := true) (maxSteps := 4000000) [ini]
  obtain ⟨h1, h2, h3, h4⟩ := hr
  have h2 : (0 : Int) ≤ p.2.1 := h2
  have h3 : (p.2.1 : Int) ≤ p.1.length := h3
  refine br_dec (fun h => ?_) fun h5 => br_dec (fun h => ?_) fun h6 => ?_
  · rw [numP, if_pos (.inl h)]; exact ⟨rfl, rfl⟩
  · rw [numP, if_pos (.inr h)]; exact ⟨rfl, rfl⟩
  · have h5 : ¬ (p.1.length : Int) ≤ p.2.1 := h5
    have w1 : IntKind.i64.wrap (p.2.1 + 1) = p.2.1 + 1 := i64_in _ (by omega)
    have w2 : IntKind.i64.wrap (p.2.1 + 1 - 1) = p.2.1 := by rw [i64_in _ (by omega)]; omega
    have h0 := isB_getD h1 p.2.1.toNat
    have w3 : IntKind.i64.wrap (p.1.getD p.2.1.toNat 0) = p.1.getD p.2.1.toNat 0 := i64_in _ (by omega)
    rw [List.getD_eq_getElem?_getD] at w3
    rw [w1, w2, w3, numP, if_neg (by omega)]
    refine ⟨⟨h2, by omega⟩, by omega, ?_, rfl⟩
    rw [List.getD_eq_getElem?_getD]
theorem pnum_ok : ConOK Tryz.prog 9 pnumC := by
  refine con_ok tab_ok (Γ := Γpnum) consOK_nil (by kernel_rfl) Tryz.func9 (by kernel_rfl) ?_
  intro args out h
  obtain ⟨x, e, h1⟩ := conN_inv h
  clear h
  obtain ⟨p, m, x0⟩ := x
  subst e
  replace h1 : (if okP p then some ⟨.val ⟨.int .i64, (numP p m).1⟩, [⟨PkT, (numP p m).2⟩]⟩ else none) = some out := h1
  split at h1
  case isFalse => cases h1
  rename_i hr
  injection h1 with h1
  subst h1
  exact ⟨by rw [mkArgs_len]; decide, pnum_ex p m hr⟩
end Go.Proofs.YthhjlbpmpffapaaGreatDoor
