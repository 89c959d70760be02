/- Numbers from which choices are read. -/
import Derived.Test.YthhjlbpmpffapaaGreatDoorPicksN
set_option maxRecDepth 10000
set_option maxHeartbeats 1000000
set_option linter.unusedSimpArgs false
set_option linter.unusedVariables false
set_option pp.deepTerms.threshold 12
namespace Go.Proofs.YthhjlbpmpffapaaGreatDoor
open Go.Tm Go.IntWalk

def pathL : List ByteArray := [⟨#[47, 97]⟩, ⟨#[47, 98]⟩, ⟨#[47, 99]⟩, ⟨#[47, 97, 47, 98]⟩, ⟨#[47, 97, 47, 99]⟩, ⟨#[47, 98, 47, 97]⟩, ⟨#[47, 97, 47, 98, 47, 99]⟩, ⟨#[47, 100]⟩, ⟨#[47, 98, 47, 99, 47, 100]⟩, ⟨#[47]⟩, ⟨#[97]⟩, ⟨#[47, 97, 47, 47, 98]⟩, ⟨#[47, 116, 111, 111, 108, 111, 110, 103]⟩, ⟨#[47, 126, 49]⟩, ⟨#[47, 120, 32, 121]⟩]
def pathP (p : Pk) : ByteArray × Pk := (pathL.getD (numP p 15).1.toNat ⟨#[]⟩, (numP p 15).2)
/-- The contract of (*glacismade.Picks).Path. -/
def ppathC : Con := conN [(.o, .prod (.slice (.int .u8)) (.prod (.int .i64) .unit))] fun (p, _) => if okP p then some ⟨.val ⟨.str, (pathP p).1⟩, [⟨PkT, (pathP p).2⟩]⟩ else none
theorem ppathC_eq {p : Ty.den (.prod (.slice (.int .u8)) (.prod (.int .i64) .unit))} : ppathC [.obj ⟨.prod (.slice (.int .u8)) (.prod (.int .i64) .unit), p⟩] = if okP p then some ⟨.val ⟨.str, (pathP p).1⟩, [⟨PkT, (pathP p).2⟩]⟩ else none := conN_mk (ks := [(.o, .prod (.slice (.int .u8)) (.prod (.int .i64) .unit))]) (p, ())
def Γppath : Cons := cons [(9, pnumC)]
theorem ppath_ex (p : Ty.den (.prod (.slice (.int .u8)) (.prod (.int .i64) .unit))) (hr : okP p) : Ex tab Γppath (Tryz.f8.body.getD .skip) (EndsF tab Tryz.f8.results.toList [.obj ⟨.prod (.slice (.int .u8)) (.prod (.int .i64) .unit), p⟩] ⟨.val ⟨.str, (pathP p).1⟩, [⟨PkT, (pathP p).2⟩]⟩) (ini [.obj ⟨.prod (.slice (.int .u8)) (.prod (.int .i64) .unit), p⟩]) := by
  have g_pnum : Γppath 9 = some pnumC := rfl
  simp only [Tryz.f8, Option.getD_some]
  simp (implicitDefEqProofs := false) (decide := true) (maxSteps := 4000000) [ini, g_pnum, pnumC_eq]
  have h := numP_lt hr (show (1 : Int) ≤ 15 by decide)
  refine ⟨hr, h, h.2, ?_, rfl⟩
  rw [pathP, List.getD_eq_getElem?_getD]
  rfl
theorem ppath_ok : ConOK Tryz.prog 8 ppathC := by
  refine con_ok tab_ok (Γ := Γppath) (consOK_cons pnum_ok consOK_nil) (by kernel_rfl) Tryz.func8 (by kernel_rfl) ?_
  intro args out h
  obtain ⟨x, e, h1⟩ := conN_inv h
  clear h
  obtain ⟨p, x0⟩ := x
  subst e
  replace h1 : (if okP p then some ⟨.val ⟨.str, (pathP p).1⟩, [⟨PkT, (pathP p).2⟩]⟩ else none) = some out := h1
  split at h1
  case isFalse => cases h1
  rename_i hr
  injection h1 with h1
  subst h1
  exact ⟨by rw [mkArgs_len]; decide, ppath_ex p hr⟩
end Go.Proofs.YthhjlbpmpffapaaGreatDoor
