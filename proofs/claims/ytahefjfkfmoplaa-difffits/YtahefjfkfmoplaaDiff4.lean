/- diff: what changed. -/
import Derived.Test.YtahefjfkfmoplaaDiff3
set_option maxRecDepth 10000
set_option maxHeartbeats 2000000
set_option linter.unusedSimpArgs false
set_option linter.unusedVariables false
set_option pp.deepTerms.threshold 14
namespace Go.Proofs.Ytahefjfkfmoplaa
open Go.Tm Go.IntWalk

def chgP (t u : List Node) (k : Nat) : Bool := sameD ((t, ()), (u, ()), ()) ((k + 1 : Nat) : Int) && (!((t.getD k dfltN).2.1 == (u.getD k dfltN).2.1) || ((t.getD k dfltN).1 == 1 && !((t.getD k dfltN).2.2.1.toList == (u.getD k dfltN).2.2.1.toList)))
def chgN (t u : List Node) (n : Nat) : List Int := ((List.range n).filter (chgP t u)).map fun k => ((k + 1 : Nat) : Int)
def chgD (t u : List Node) : List Int := chgN t u t.length
theorem chgN_succ (t u : List Node) (n : Nat) : chgN t u (n + 1) = chgN t u n ++ if chgP t u n = true then [((n + 1 : Nat) : Int)] else [] := by
  unfold chgN
  rw [List.range_succ, List.filter_append, List.map_append]
  congr 1
  cases h : chgP t u n <;> simp [h]
theorem chgN_len (t u : List Node) (n : Nat) : (chgN t u n).length ≤ n := by
  unfold chgN
  rw [List.length_map]
  have := List.length_filter_le (chgP t u) (List.range n)
  rwa [List.length_range] at this
/-- The contract of diff.Changed. -/
def dchangedC : Con := conN [(.v, .slice (.prod (.int .i64) (.prod (.int .i64) (.prod .str .unit)))), (.v, .slice (.prod (.int .i64) (.prod (.int .i64) (.prod .str .unit))))] fun (t, u, _) => if t.length ≤ 1000 ∧ u.length ≤ 1000 then some ⟨.own (.int .i64) (chgD t u), []⟩ else none
theorem dchangedC_eq {t : List (Ty.den (.prod (.int .i64) (.prod (.int .i64) (.prod .str .unit))))} {u : List (Ty.den (.prod (.int .i64) (.prod (.int .i64) (.prod .str .unit))))} : dchangedC [.val ⟨.slice (.prod (.int .i64) (.prod (.int .i64) (.prod .str .unit))), t⟩, .val ⟨.slice (.prod (.int .i64) (.prod (.int .i64) (.prod .str .unit))), u⟩] = if t.length ≤ 1000 ∧ u.length ≤ 1000 then some ⟨.own (.int .i64) (chgD t u), []⟩ else none := conN_mk (ks := [(.v, .slice (.prod (.int .i64) (.prod (.int .i64) (.prod .str .unit)))), (.v, .slice (.prod (.int .i64) (.prod (.int .i64) (.prod .str .unit))))]) (t, u, ())
def Γdchanged : Cons := cons [(41, dsameC)]
theorem dchanged_ex (t : List (Ty.den (.prod (.int .i64) (.prod (.int .i64) (.prod .str .unit))))) (u : List (Ty.den (.prod (.int .i64) (.prod (.int .i64) (.prod .str .unit))))) (hr : t.length ≤ 1000 ∧ u.length ≤ 1000) : Ex tab Γdchanged (Try.f23.body.getD .skip) (EndsF tab Try.f23.results.toList [.val ⟨.slice (.prod (.int .i64) (.prod (.int .i64) (.prod .str .unit))), t⟩, .val ⟨.slice (.prod (.int .i64) (.prod (.int .i64) (.prod .str .unit))), u⟩] ⟨.own (.int .i64) (chgD t u), []⟩) (ini [.val ⟨.slice (.prod (.int .i64) (.prod (.int .i64) (.prod .str .unit))), t⟩, .val ⟨.slice (.prod (.int .i64) (.prod (.int .i64) (.prod .str .unit))), u⟩]) := by
  have g_dsame : Γdchanged 41 = some dsameC := rfl
  simp only [Try.f23, Option.getD_some]
  simp (implicitDefEqProofs := false) (decide := true) (maxSteps := 4000000) [ini, g_dsame, dsameC_eq]
  intro m hl
  have h1000 : t.length ≤ 1000 := hr.1
  refine ex_loopN 6 (.int .i64) rfl (σ := Nat × Nat × List Int) [6, 7, 8, 16, 17, 18, 19, 20, 21, 22, 23, 24, 25, 26, 27, 28, 29, 30, 31, 32, 33, 34, 35, 36, 37, 38, 39, 40, 41, 42, 43, 44, 45, 46, 47, 48, 49, 50, 51, 52, 53, 54, 55] (fun a => [(16, .val (.int .i64) (a.1 : Int)), (6, .own a.2.1 (.int .i64) a.2.2)]) (fun a => a.1 ≤ t.length ∧ a.2.2 = chgN t u a.1) (fun a => t.length - a.1) (fun m => ⟨(0, m, []), ⟨Nat.zero_le _, rfl⟩, hc rfl (hc rfl hn)⟩) ?_
  rintro m2 j ⟨i, q, row⟩ ⟨hi, hrow⟩
  simp only at hi hrow
  simp (implicitDefEqProofs := false) (decide := true) (maxSteps := 4000000) [ini, g_dsame, dsameC_eq]
  have hn := chgN_len t u i
  have hs := chgN_succ t u i
  have yes : chgP t u i = true → row ++ [((i + 1 : Nat) : Int)] = chgN t u (i + 1) := fun h => by rw [hs, if_pos h, hrow]
  have nope : chgP t u i = false → row = chgN t u (i + 1) := fun h => by rw [hs, if_neg (by rw [h]; decide), List.append_nil, hrow]
  have hrl : (row.length + 1) * 8 ≤ 140737488355328 := by rw [hrow]; omega
  have hg : t[i]?.getD ((0, 0, { data := #[] }, ()) : Node) = t.getD i dfltN := by rw [List.getD_eq_getElem?_getD]; rfl
  have hgu : u[i]?.getD ((0, 0, { data := #[] }, ()) : Node) = u.getD i dfltN := by rw [List.getD_eq_getElem?_getD]; rfl
  have w : IntKind.i64.wrap ((i : Int) + 1) = ((i + 1 : Nat) : Int) := w_nat rfl (by omega)
  rw [w, hg, hgu]
  refine br_dec (fun hlt => ⟨hlt, ?_⟩) fun hge => ?_
  · have hul : sameD ((t, ()), (u, ()), ()) ((i + 1 : Nat) : Int) = true → i < u.length := fun h => by
      rcases Nat.lt_or_ge i u.length with h1 | h1
      · exact h1
      · exfalso
        simp only [sameD, Bool.and_eq_true, decide_eq_true_eq] at h
        have : kindD u ((i + 1 : Nat) : Int) = 0 := if_pos (.inr (by omega))
        rw [this] at h
        exact h.1 h.2
    have hx : chgP t u i = (sameD ((t, ()), (u, ()), ()) ((i + 1 : Nat) : Int) && (!((t.getD i dfltN).2.1 == (u.getD i dfltN).2.1) || ((t.getD i dfltN).1 == 1 && !((t.getD i dfltN).2.2.1.toList == (u.getD i dfltN).2.2.1.toList)))) := rfl
    generalize sameD ((t, ()), (u, ()), ()) ((i + 1 : Nat) : Int) = sm at hul hx ⊢
    generalize t.getD i dfltN = x at hx ⊢
    generalize u.getD i dfltN = y at hx ⊢
    refine br_intro (fun h => ⟨hul h, br_intro (fun h2 m3 => ⟨hrl, i + 1, _, _, ⟨hlt, yes ?_⟩, by omega, rfl, rfl, rfl⟩) fun h2 => br_intro (fun h3 => ⟨hul h, br_intro (fun h4 m3 => ⟨hrl, i + 1, _, _, ⟨hlt, yes ?_⟩, by omega, rfl, rfl, rfl⟩) fun h4 => ⟨i + 1, _, _, ⟨hlt, nope ?_⟩, by omega, rfl, rfl, rfl⟩⟩) fun h3 => ⟨i + 1, _, _, ⟨hlt, nope ?_⟩, by omega, rfl, rfl, rfl⟩⟩) fun h => ⟨i + 1, _, _, ⟨hlt, nope ?_⟩, by omega, rfl, rfl, rfl⟩
    · rw [hx, h, show (!(x.2.1 == y.2.1)) = true from h2]; rfl
    · rw [hx, h, show (!(x.2.1 == y.2.1)) = false from h2, h3, h4]; rfl
    · rw [hx, h, show (!(x.2.1 == y.2.1)) = false from h2, h3, h4]; rfl
    · rw [hx, h, show (!(x.2.1 == y.2.1)) = false from h2, h3]; rfl
    · rw [hx, h]; rfl
  · obtain rfl : i = t.length := by omega
    exact hrow
theorem dchanged_ok : ConOK Try.prog 23 dchangedC := by
  refine con_ok tab_ok (Γ := Γdchanged) (consOK_cons dsame_ok consOK_nil) (by kernel_rfl) Try.func23 (by kernel_rfl) ?_
  intro args out h
  obtain ⟨x, e, h1⟩ := conN_inv h
  clear h
  obtain ⟨t, u, x0⟩ := x
  subst e
  replace h1 : (if t.length ≤ 1000 ∧ u.length ≤ 1000 then some ⟨.own (.int .i64) (chgD t u), []⟩ else none) = some out := h1
  split at h1
  case isFalse => cases h1
  rename_i hr
  injection h1 with h1
  subst h1
  exact ⟨by rw [mkArgs_len]; decide, dchanged_ex t u hr⟩
/-- The contract of glacisref20.Changed. -/
def rchangedC : Con := conN [(.v, .slice (.prod (.int .i64) (.prod (.int .i64) (.prod .str .unit)))), (.v, .slice (.prod (.int .i64) (.prod (.int .i64) (.prod .str .unit))))] fun (t, u, _) => if t.length ≤ 1000 ∧ t.length = u.length then some ⟨.own (.int .i64) (chgD t u), []⟩ else none
theorem rchangedC_eq {t : List (Ty.den (.prod (.int .i64) (.prod (.int .i64) (.prod .str .unit))))} {u : List (Ty.den (.prod (.int .i64) (.prod (.int .i64) (.prod .str .unit))))} : rchangedC [.val ⟨.slice (.prod (.int .i64) (.prod (.int .i64) (.prod .str .unit))), t⟩, .val ⟨.slice (.prod (.int .i64) (.prod (.int .i64) (.prod .str .unit))), u⟩] = if t.length ≤ 1000 ∧ t.length = u.length then some ⟨.own (.int .i64) (chgD t u), []⟩ else none := conN_mk (ks := [(.v, .slice (.prod (.int .i64) (.prod (.int .i64) (.prod .str .unit)))), (.v, .slice (.prod (.int .i64) (.prod (.int .i64) (.prod .str .unit))))]) (t, u, ())
def Γrchanged : Cons := cons []
theorem rchanged_ex (t : List (Ty.den (.prod (.int .i64) (.prod (.int .i64) (.prod .str .unit))))) (u : List (Ty.den (.prod (.int .i64) (.prod (.int .i64) (.prod .str .unit))))) (hr : t.length ≤ 1000 ∧ t.length = u.length) : Ex tab Γrchanged (Try.f24.body.getD .skip) (EndsF tab Try.f24.results.toList [.val ⟨.slice (.prod (.int .i64) (.prod (.int .i64) (.prod .str .unit))), t⟩, .val ⟨.slice (.prod (.int .i64) (.prod (.int .i64) (.prod .str .unit))), u⟩] ⟨.own (.int .i64) (chgD t u), []⟩) (ini [.val ⟨.slice (.prod (.int .i64) (.prod (.int .i64) (.prod .str .unit))), t⟩, .val ⟨.slice (.prod (.int .i64) (.prod (.int .i64) (.prod .str .unit))), u⟩]) := by
  simp only [Try.f24, Option.getD_some]
  simp (implicitDefEqProofs := false) (decide := true) (maxSteps := 4000000) [ini]
  obtain ⟨h1000, hlu⟩ := hr
  refine ex_loopN 5 (.int .i64) rfl (σ := Nat × Nat × List Int) [5, 6, 7, 8, 9, 10, 11, 12, 13, 14, 15, 16, 17, 18, 19, 20, 21, 22, 23, 24, 25, 26, 27, 28, 29, 30, 31, 32, 33, 34, 35, 36, 37, 38, 39, 40, 41, 42, 43, 44, 45, 46, 47, 48, 49, 50, 51, 52, 53, 54, 55, 56, 57, 58, 59, 60, 61, 62, 63] (fun a => [(6, .val (.int .i64) ((a.1 + 1 : Nat) : Int)), (5, .own a.2.1 (.int .i64) a.2.2)]) (fun a => a.1 ≤ t.length ∧ a.2.2 = chgN t u a.1) (fun a => t.length - a.1) (fun m => ⟨(0, m, []), ⟨Nat.zero_le _, rfl⟩, hc rfl (hc rfl hn)⟩) ?_
  rintro m2 j ⟨i, q, row⟩ ⟨hi, hrow⟩
  simp only at hi hrow
  simp (implicitDefEqProofs := false) (decide := true) (maxSteps := 4000000) [ini]
  intro hl
  have hn := chgN_len t u i
  have hs := chgN_succ t u i
  have yes : chgP t u i = true → row ++ [((i + 1 : Nat) : Int)] = chgN t u (i + 1) := fun h => by rw [hs, if_pos h, hrow]
  have nope : chgP t u i = false → row = chgN t u (i + 1) := fun h => by rw [hs, if_neg (by rw [h]; decide), List.append_nil, hrow]
  have hrl : (row.length + 1) * 8 ≤ 140737488355328 := by rw [hrow]; omega
  have hg : t[i]?.getD ((0, 0, { data := #[] }, ()) : Node) = t.getD i dfltN := by rw [List.getD_eq_getElem?_getD]; rfl
  have hgu : u[i]?.getD ((0, 0, { data := #[] }, ()) : Node) = u.getD i dfltN := by rw [List.getD_eq_getElem?_getD]; rfl
  have w : IntKind.i64.wrap (i : Int) = (i : Int) := w_nat rfl (by omega)
  have w2 : IntKind.i64.wrap ((i : Int) + 1 + 1) = ((i + 1 : Nat) : Int) + 1 := by rw [i64_in _ (by omega)]; omega
  have hend : ¬ (i : Int) + 1 ≤ (t.length : Int) → row = chgD t u := fun h => by
    have e : i = t.length := by omega
    rw [hrow, e]; rfl
  refine br_dec (fun hle hlu2 => br_dec (fun hle2 => ?_) fun h => hend (by rw [hlu]; exact h)) hend
  have hlt : i < t.length := by omega
  rw [w, Int.toNat_natCast, hg, hgu]
  have hsm : sameD ((t, ()), (u, ()), ()) ((i + 1 : Nat) : Int) = (((t.getD i dfltN).1 == (u.getD i dfltN).1) && !((t.getD i dfltN).1 == 0)) := by
    have k1 : kindD t ((i + 1 : Nat) : Int) = (t.getD i dfltN).1 := by
      rw [kindD_in (by omega) (by omega), List.getD_eq_getElem?_getD, show (((i + 1 : Nat) : Int) - 1).toNat = i by omega]
    have k2 : kindD u ((i + 1 : Nat) : Int) = (u.getD i dfltN).1 := by
      rw [kindD_in (by omega) (by omega), List.getD_eq_getElem?_getD, show (((i + 1 : Nat) : Int) - 1).toNat = i by omega]
    unfold sameD
    simp only
    rw [k1, k2]
    have key : ∀ x y : Int, (decide (x ≠ 0) && decide (x = y)) = ((x == y) && !(x == 0)) := fun x y => by
      by_cases hy : x = y
      · subst hy
        by_cases hx : x = 0 <;> simp [hx]
      · by_cases hx : x = 0 <;> simp [hx, hy]
    exact key _ _
  have hx : chgP t u i = ((((t.getD i dfltN).1 == (u.getD i dfltN).1) && !((t.getD i dfltN).1 == 0)) && (!((t.getD i dfltN).2.1 == (u.getD i dfltN).2.1) || ((t.getD i dfltN).1 == 1 && !((t.getD i dfltN).2.2.1.toList == (u.getD i dfltN).2.2.1.toList)))) := by
    rw [← hsm]; rfl
  generalize t.getD i dfltN = x at hx ⊢
  generalize u.getD i dfltN = y at hx ⊢
  refine ⟨⟨by omega, by omega⟩, ⟨by omega, by omega⟩, br_intro (fun h => br_intro (fun h0 => br_intro (fun h2 m3 => ⟨hrl, i + 1, _, _, ⟨hlt, yes ?_⟩, by omega, w2, rfl, rfl⟩) fun h2 => br_intro (fun h3 => br_intro (fun h4 m3 => ⟨hrl, i + 1, _, _, ⟨hlt, yes ?_⟩, by omega, w2, rfl, rfl⟩) fun h4 => ⟨i + 1, _, _, ⟨hlt, nope ?_⟩, by omega, w2, rfl, rfl⟩) fun h3 => ⟨i + 1, _, _, ⟨hlt, nope ?_⟩, by omega, w2, rfl, rfl⟩) fun h0 => ⟨i + 1, _, _, ⟨hlt, nope ?_⟩, by omega, w2, rfl, rfl⟩) fun h => ⟨i + 1, _, _, ⟨hlt, nope ?_⟩, by omega, w2, rfl, rfl⟩⟩
  · rw [hx, h, show (!(x.1 == 0)) = true from h0, show (!(x.2.1 == y.2.1)) = true from h2]; rfl
  · rw [hx, h, show (!(x.1 == 0)) = true from h0, show (!(x.2.1 == y.2.1)) = false from h2, h3, h4]; rfl
  · rw [hx, h, show (!(x.1 == 0)) = true from h0, show (!(x.2.1 == y.2.1)) = false from h2, h3, h4]; rfl
  · rw [hx, h, show (!(x.1 == 0)) = true from h0, show (!(x.2.1 == y.2.1)) = false from h2, h3]; rfl
  · rw [hx, h, show (!(x.1 == 0)) = false from h0]; rfl
  · rw [hx, h]; rfl
theorem rchanged_ok : ConOK Try.prog 24 rchangedC := by
  refine con_ok tab_ok (Γ := Γrchanged) consOK_nil (by kernel_rfl) Try.func24 (by kernel_rfl) ?_
  intro args out h
  obtain ⟨x, e, h1⟩ := conN_inv h
  clear h
  obtain ⟨t, u, x0⟩ := x
  subst e
  replace h1 : (if t.length ≤ 1000 ∧ t.length = u.length then some ⟨.own (.int .i64) (chgD t u), []⟩ else none) = some out := h1
  split at h1
  case isFalse => cases h1
  rename_i hr
  injection h1 with h1
  subst h1
  exact ⟨by rw [mkArgs_len]; decide, rchanged_ex t u hr⟩
end Go.Proofs.Ytahefjfkfmoplaa
