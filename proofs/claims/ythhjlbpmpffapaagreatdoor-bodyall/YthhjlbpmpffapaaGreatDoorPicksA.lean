/- Numbers from which choices are read. -/
import Derived.Test.YthhjlbpmpffapaaGreatDoorPicksP
set_option maxRecDepth 10000
set_option maxHeartbeats 1000000
set_option linter.unusedSimpArgs false
set_option linter.unusedVariables false
set_option pp.deepTerms.threshold 12
namespace Go.Proofs.YthhjlbpmpffapaaGreatDoor
open Go.Tm Go.IntWalk

def lenL : List Int := [0, 1, 3, 17, 40, 41, 60, 121]
def fillP (n : Nat) (c : Int) : List Int := (List.range n).map fun i => IntKind.u8.wrap (c + IntKind.u8.wrap ((i % 3 : Nat) : Int))
def textP (p : Pk) : ByteArray × Pk :=
  let k := numP p 8
  let a := numP k.2 26
  (strOf (fillP (lenL.getD k.1.toNat 0).toNat (IntKind.u8.wrap (97 + a.1))), a.2)
/-- The contract of (*glacismade.Picks).Text. -/
def ptextC : Con := conN [(.o, .prod (.slice (.int .u8)) (.prod (.int .i64) .unit))] fun (p, _) => if okP p then some ⟨.val ⟨.str, (textP p).1⟩, [⟨PkT, (textP p).2⟩]⟩ else none
theorem ptextC_eq {p : Ty.den (.prod (.slice (.int .u8)) (.prod (.int .i64) .unit))} : ptextC [.obj ⟨.prod (.slice (.int .u8)) (.prod (.int .i64) .unit), p⟩] = if okP p then some ⟨.val ⟨.str, (textP p).1⟩, [⟨PkT, (textP p).2⟩]⟩ else none := conN_mk (ks := [(.o, .prod (.slice (.int .u8)) (.prod (.int .i64) .unit))]) (p, ())
def Γptext : Cons := cons [(9, pnumC)]
theorem ptext_ex (p : Ty.den (.prod (.slice (.int .u8)) (.prod (.int .i64) .unit))) (hr : okP p) : Ex tab Γptext (Tryz.f10.body.getD .skip) (EndsF tab Tryz.f10.results.toList [.obj ⟨.prod (.slice (.int .u8)) (.prod (.int .i64) .unit), p⟩] ⟨.val ⟨.str, (textP p).1⟩, [⟨PkT, (textP p).2⟩]⟩) (ini [.obj ⟨.prod (.slice (.int .u8)) (.prod (.int .i64) .unit), p⟩]) := by
  have g_pnum : Γptext 9 = some pnumC := rfl
  simp only [Tryz.f10, Option.getD_some]
  simp (implicitDefEqProofs := false) (decide := true) (maxSteps := 4000000) [ini, g_pnum, pnumC_eq]
  intro _
  have h := numP_lt hr (show (1 : Int) ≤ 8 by decide)
  have h1 := numP_ok hr 8
  have h2 := numP_lt h1 (show (1 : Int) ≤ 26 by decide)
  obtain ⟨n, hn⟩ : ∃ n : Nat, lenL.getD (numP p 8).1.toNat 0 = n ∧ n ≤ 121 := by
    generalize (numP p 8).1.toNat = k
    match k with
    | 0 => exact ⟨0, rfl, by decide⟩
    | 1 => exact ⟨1, rfl, by decide⟩
    | 2 => exact ⟨3, rfl, by decide⟩
    | 3 => exact ⟨17, rfl, by decide⟩
    | 4 => exact ⟨40, rfl, by decide⟩
    | 5 => exact ⟨41, rfl, by decide⟩
    | 6 => exact ⟨60, rfl, by decide⟩
    | 7 => exact ⟨121, rfl, by decide⟩
    | k + 8 => exact ⟨0, rfl, by decide⟩
  obtain ⟨hn, hn2⟩ := hn
  have hn3 := hn
  rw [lenL, List.getD_eq_getElem?_getD] at hn3
  rw [hn3]
  have w1 : IntKind.i64.wrap (97 + (numP (numP p 8).2 26).1) = 97 + (numP (numP p 8).2 26).1 := i64_in _ (by omega)
  obtain ⟨c, hc'⟩ : ∃ c, c = IntKind.u8.wrap (97 + (numP (numP p 8).2 26).1) := ⟨_, rfl⟩
  have ht : textP p = (strOf (fillP n c), (numP (numP p 8).2 26).2) := by
    rw [textP, hn, ← hc']
    rfl
  rw [ht, w1, ← hc']
  refine ⟨hr, h, h.2, fun _ => ⟨⟨by omega, by omega⟩, h1, ?_⟩⟩
  refine ex_loopU (σ := Nat × Nat × List Int) [4, 6, 18, 19, 20, 21, 22, 23, 24, 25, 26, 27, 28, 29, 30] (fun s => [(6, .val (.int .i64) (s.1 : Int)), (4, .own s.2.1 (.int .u8) s.2.2)])
    (fun s => s.1 ≤ n ∧ s.2.2 = fillP s.1 c ++ List.replicate (n - s.1) 0) (fun s => n - s.1) (0, _, _) ?_ (hc rfl (hc rfl Go.Tm.hn)) ?_
  · exact ⟨by simp, by simp [fillP]⟩
  rintro j ⟨i, q, xs⟩ ⟨hi, hx⟩
  simp only at hi hx
  simp (implicitDefEqProofs := false) (decide := true) [ini]
  have hlen : (fillP i c).length = i := by simp [fillP]
  refine br_dec (fun hlt => ⟨by rw [hx, List.length_append, hlen, List.length_replicate]; omega, i + 1, _, _, ⟨by omega, ?_⟩, by omega, w_nat rfl (by omega), rfl, rfl⟩) (fun hge => ?_)
  · have t1 : Int.tmod (i : Int) 3 = ((i % 3 : Nat) : Int) := tmod_nat i 3
    have e : fillP (i + 1) c = fillP i c ++ [IntKind.u8.wrap (c + IntKind.u8.wrap ((i % 3 : Nat) : Int))] := by simp [fillP, List.range_succ]
    have e2 : n - i = (n - (i + 1)) + 1 := by omega
    rw [hx, e2, e, List.replicate_succ]
    try rw [t1]
    rw [List.set_append_right _ _ (by omega), hlen, Nat.sub_self, List.set_cons_zero, List.append_assoc]
    rfl
  · obtain rfl : i = n := by omega
    rw [hx, Nat.sub_self, List.replicate_zero, List.append_nil]
theorem ptext_ok : ConOK Tryz.prog 10 ptextC := by
  refine con_ok tab_ok (Γ := Γptext) (consOK_cons pnum_ok consOK_nil) (by kernel_rfl) Tryz.func10 (by kernel_rfl) ?_
  intro args out h
  obtain ⟨x, e, h1⟩ := conN_inv h
  clear h
  obtain ⟨p, x0⟩ := x
  subst e
  replace h1 : (if okP p then some ⟨.val ⟨.str, (textP p).1⟩, [⟨PkT, (textP p).2⟩]⟩ else none) = some out := h1
  split at h1
  case isFalse => cases h1
  rename_i hr
  injection h1 with h1
  subst h1
  exact ⟨by rw [mkArgs_len]; decide, ptext_ex p hr⟩
end Go.Proofs.YthhjlbpmpffapaaGreatDoor
