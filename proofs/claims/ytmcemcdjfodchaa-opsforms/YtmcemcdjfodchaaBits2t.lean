/- bits: a text that is taken, by the document. -/
import Derived.Test.YtmcemcdjfodchaaBits2
set_option maxRecDepth 10000
set_option linter.unusedSimpArgs false
set_option linter.unusedVariables false
set_option pp.deepTerms.threshold 12
namespace Go.Proofs.Ytmcemcdjfodchaa
open Go.Tm Go.IntWalk
/-- The contract of glacisref1.TakeText. -/
def rtakeTextC : Con := conN [(.v, .slice (.int .u8))] fun (b, _) => if 0 ≤ b.getD 0 0 ∧ b.getD 0 0 < 256 then some ⟨.tup [⟨.str, (takeTextS b).1⟩, ⟨.int .i64, (takeTextS b).2.1⟩, ⟨.bool, (takeTextS b).2.2⟩], []⟩ else none
theorem rtakeTextC_eq {b : List Int} : rtakeTextC [.val ⟨.slice (.int .u8), b⟩] = if 0 ≤ b.getD 0 0 ∧ b.getD 0 0 < 256 then some ⟨.tup [⟨.str, (takeTextS b).1⟩, ⟨.int .i64, (takeTextS b).2.1⟩, ⟨.bool, (takeTextS b).2.2⟩], []⟩ else none := conN_mk (ks := [(.v, .slice (.int .u8))]) (b, ())
def ΓrtakeText : Cons := cons []
theorem rtakeText_ex (b : List Int) (hr : 0 ≤ b.getD 0 0 ∧ b.getD 0 0 < 256) : Ex tab ΓrtakeText (Try.f35.body.getD .skip) (EndsF tab Try.f35.results.toList [.val ⟨.slice (.int .u8), b⟩] ⟨.tup [⟨.str, (takeTextS b).1⟩, ⟨.int .i64, (takeTextS b).2.1⟩, ⟨.bool, (takeTextS b).2.2⟩], []⟩) (ini [.val ⟨.slice (.int .u8), b⟩]) := by
  simp only [Try.f35, Option.getD_some]
  simp (implicitDefEqProofs := false) (decide := true) (maxSteps := 4000000) [ini]
  intro hl
  have e0 : b[0]?.getD 0 = b.getD 0 0 := (List.getD_eq_getElem?_getD).symm
  generalize hx : b.getD 0 0 = x at hr
  have w1 : IntKind.i64.wrap x = x := i64_in _ (by omega)
  have w2 : IntKind.i64.wrap (x + 1) = 1 + x := by rw [i64_in _ (by omega)]; omega
  have w3 : b.length ≤ 9223372036854775807 := hl
  refine br_dec (fun h => ?_) (fun h => ?_)
  · have : b.length = 0 := by omega
    rw [show takeTextS b = (⟨#[]⟩, 0, false) by rw [takeTextS, if_pos (.inl this)]]
    exact ⟨rfl, rfl, rfl⟩
  intro _
  have h0 : 0 < b.length := by omega
  have e1 : b[0] = x := by rw [← hx, List.getD_eq_getElem?_getD, List.getElem?_eq_getElem h0]; rfl
  have w4 : IntKind.i64.wrap ((b.length : Int) - 1) = (b.length : Int) - 1 := i64_in _ (by omega)
  rw [w4]
  have e2 : b[0]?.getD 0 = x := by rw [e0, hx]
  rw [e2, w1, w2]
  refine ⟨h0, br_dec (fun h1 => ?_) (fun h1 => ⟨h0, ⟨by omega, by omega⟩, by omega, ?_⟩)⟩
  · rw [show takeTextS b = (⟨#[]⟩, 0, false) by rw [takeTextS, hx, w1, if_pos (.inr (by omega))]]
    exact ⟨rfl, rfl, rfl⟩
  · rw [show takeTextS b = (strOf ((b.drop 1).take x.toNat), 1 + x, true) by rw [takeTextS, hx, w1, if_neg (by omega)]]
    refine ⟨?_, rfl, rfl⟩
    rw [show (1 + x).toNat - 1 = x.toNat by omega, List.drop_one]
theorem rtakeText_ok : ConOK Try.prog 35 rtakeTextC := by
  refine con_ok tab_ok (Γ := ΓrtakeText) consOK_nil (by kernel_rfl) Try.func35 (by kernel_rfl) ?_
  intro args out h
  obtain ⟨x, e, h1⟩ := conN_inv h
  clear h
  obtain ⟨b, x0⟩ := x
  subst e
  replace h1 : (if 0 ≤ b.getD 0 0 ∧ b.getD 0 0 < 256 then some ⟨.tup [⟨.str, (takeTextS b).1⟩, ⟨.int .i64, (takeTextS b).2.1⟩, ⟨.bool, (takeTextS b).2.2⟩], []⟩ else none) = some out := h1
  split at h1
  case isFalse => cases h1
  rename_i hr
  injection h1 with h1
  subst h1
  exact ⟨by rw [mkArgs_len]; decide, rtakeText_ex b hr⟩
end Go.Proofs.Ytmcemcdjfodchaa
