/- dir: one name more: the contract. -/
import Derived.Test.YtfjbfopomepnoaaDir6
set_option maxRecDepth 10000
set_option maxHeartbeats 1000000
set_option linter.unusedSimpArgs false
set_option linter.unusedVariables false
set_option pp.deepTerms.threshold 14
namespace Go.Proofs.Ytfjbfopomepnoaa
open Go.Tm Go.IntWalk
/-- The contract of dir.With. -/
def dwithDC : Con := conN [(.v, .slice EntT), (.v, EntT)] fun (l, e, _) => if Rises l ∧ l.length ≤ 1000000000 then some ⟨.tup [⟨.slice EntT, (withD l e).1⟩, ⟨.bool, (withD l e).2⟩], []⟩ else none
theorem dwithDC_eq {l : List (Ty.den (EntT))} {e : Ty.den (EntT)} : dwithDC [.val ⟨.slice EntT, l⟩, .val ⟨EntT, e⟩] = if Rises l ∧ l.length ≤ 1000000000 then some ⟨.tup [⟨.slice EntT, (withD l e).1⟩, ⟨.bool, (withD l e).2⟩], []⟩ else none := conN_mk (ks := [(.v, .slice EntT), (.v, EntT)]) (l, e, ())
def ΓdwithD : Cons := cons []
theorem dwith_goes (xs : List Ent) (e : Ent) (hr : Rises xs) (hl : xs.length ≤ 1000000000) {vals : List Value} {w : World} {R : Nat → Prop} (hrd : Ready w R [.val ⟨.slice EntT, xs⟩, .val ⟨EntT, e⟩] vals) :
    Goes Try.prog 16 vals w (.tup [⟨.slice EntT, (withD xs e).1⟩, ⟨.bool, (withD xs e).2⟩]) (After w R [.val ⟨.slice EntT, xs⟩, .val ⟨EntT, e⟩] vals ⟨.tup [⟨.slice EntT, (withD xs e).1⟩, ⟨.bool, (withD xs e).2⟩], []⟩) := by
  obtain ⟨s, k, ⟨⟩⟩ := e
  obtain ⟨hrep, hnd, hap⟩ := hrd
  obtain ⟨v1, r1, rfl, hv1, v2, r2, rfl, hv2, rfl⟩ := hrep
  have hv1 : vrep w R (.slice EntT) xs v1 := hv1
  have hv2 : v2 = .agg #[.string s, .int .i64 k] := by
    obtain ⟨cs, h, rfl⟩ := hv2
    obtain ⟨c1, c2, rfl, h1, c3, c4, rfl, h3, h4⟩ := h
    have h1 : c1 = [.string s] := h1
    have h3 : c3 = [.int .i64 k] := h3
    have h4 : c4 = [] := h4
    subst h1 h3 h4
    rfl
  subst hv2
  refine .inl ⟨_, _, w, enters Try.func16 (by kernel_rfl) (by kernel_rfl) _ _, (dwith_core xs s k hr hl hv1).mono ?_⟩
  rintro _ w' ⟨A, c, cs, rfl, k1, k2, k3, k4, k5, k6⟩
  refine ⟨_, rfl, ⟨k6.os, k6.tape, k6.output, k6.size, fun x hx _ => k6.block x hx (fun _ h => by cases h)⟩, (fun x hx => by cases hx), ⟨[_, _], rfl, _, _, rfl, ⟨_, ⟨A, c, rfl, k1, k2, ?_⟩, rfl⟩, _, _, rfl, ⟨_, rfl, rfl⟩, rfl⟩, ⟨_, _, rfl, _, _, rfl, rfl⟩⟩
  rcases k4 with ⟨rfl, rfl⟩ | ⟨ad, rfl, hm⟩
  · exact .inl (List.eq_nil_of_length_eq_zero (Nat.le_zero.1 k1))
  · exact .inr ⟨ad, cs, rfl, ⟨.inr (k5 ad rfl), fun h => by cases h⟩, hm.block_lt, k3 _ _, hm.lies⟩
theorem dwithD_ok : ConOK Try.prog 16 dwithDC := by
  intro args out vals w R h hrd
  obtain ⟨x, e, h1⟩ := conN_inv h
  clear h
  obtain ⟨l, e0, x0⟩ := x
  subst e
  replace h1 : (if Rises l ∧ List.length l ≤ 1000000000 then some (⟨.tup [⟨.slice EntT, (withD l e0).1⟩, ⟨.bool, (withD l e0).2⟩], []⟩ : Out) else none) = some out := h1
  split at h1
  case isFalse => cases h1
  rename_i hr
  injection h1 with h1
  subst h1
  exact dwith_goes l e0 hr.1 hr.2 hrd
end Go.Proofs.Ytfjbfopomepnoaa
