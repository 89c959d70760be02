/- diff: what died, was made, changed; sameness of rows. -/
import Derived.Test.YtahefjfkfmoplaaDiff1
import Derived.Test.YtahefjfkfmoplaaDir2
set_option maxRecDepth 10000
set_option maxHeartbeats 2000000
set_option linter.unusedSimpArgs false
set_option linter.unusedVariables false
set_option pp.deepTerms.threshold 14
namespace Go.Proofs.Ytahefjfkfmoplaa
open Go.Tm Go.IntWalk

def deadP (t u : List Node) (k : Nat) : Bool := !((t.getD k dfltN).1 == 0) && !sameD ((t, ()), (u, ()), ()) ((k + 1 : Nat) : Int)
def deadN (t u : List Node) (n : Nat) : List Int := ((List.range n).filter (deadP t u)).map fun k => ((k + 1 : Nat) : Int)
def deadD (t u : List Node) : List Int := deadN t u t.length
theorem deadN_succ (t u : List Node) (n : Nat) : deadN t u (n + 1) = deadN t u n ++ if deadP t u n = true then [((n + 1 : Nat) : Int)] else [] := by
  unfold deadN
  rw [List.range_succ, List.filter_append, List.map_append]
  congr 1
  cases h : deadP t u n <;> simp [h]
theorem deadN_len (t u : List Node) (n : Nat) : (deadN t u n).length ≤ n := by
  unfold deadN
  rw [List.length_map]
  have := List.length_filter_le (deadP t u) (List.range n)
  rwa [List.length_range] at this
/-- The contract of diff.Dead. -/
def ddeadC : Con := conN [(.v, .slice (.prod (.int .i64) (.prod (.int .i64) (.prod .str .unit)))), (.v, .slice (.prod (.int .i64) (.prod (.int .i64) (.prod .str .unit))))] fun (t, u, _) => if t.length ≤ 1000 ∧ u.length ≤ 1000 then some ⟨.own (.int .i64) (deadD t u), []⟩ else none
theorem ddeadC_eq {t : List (Ty.den (.prod (.int .i64) (.prod (.int .i64) (.prod .str .unit))))} {u : List (Ty.den (.prod (.int .i64) (.prod (.int .i64) (.prod .str .unit))))} : ddeadC [.val ⟨.slice (.prod (.int .i64) (.prod (.int .i64) (.prod .str .unit))), t⟩, .val ⟨.slice (.prod (.int .i64) (.prod (.int .i64) (.prod .str .unit))), u⟩] = if t.length ≤ 1000 ∧ u.length ≤ 1000 then some ⟨.own (.int .i64) (deadD t u), []⟩ else none := conN_mk (ks := [(.v, .slice (.prod (.int .i64) (.prod (.int .i64) (.prod .str .unit)))), (.v, .slice (.prod (.int .i64) (.prod (.int .i64) (.prod .str .unit))))]) (t, u, ())
def Γddead : Cons := cons [(41, dsameC)]
theorem ddead_ex (t : List (Ty.den (.prod (.int .i64) (.prod (.int .i64) (.prod .str .unit))))) (u : List (Ty.den (.prod (.int .i64) (.prod (.int .i64) (.prod .str .unit))))) (hr : t.length ≤ 1000 ∧ u.length ≤ 1000) : Ex tab Γddead (Try.f19.body.getD .skip) (EndsF tab Try.f19.results.toList [.val ⟨.slice (.prod (.int .i64) (.prod (.int .i64) (.prod .str .unit))), t⟩, .val ⟨.slice (.prod (.int .i64) (.prod (.int .i64) (.prod .str .unit))), u⟩] ⟨.own (.int .i64) (deadD t u), []⟩) (ini [.val ⟨.slice (.prod (.int .i64) (.prod (.int .i64) (.prod .str .unit))), t⟩, .val ⟨.slice (.prod (.int .i64) (.prod (.int .i64) (.prod .str .unit))), u⟩]) := by
  have g_dsame : Γddead 41 = some dsameC := rfl
  simp only [Try.f19, Option.getD_some]
  simp (implicitDefEqProofs := false) (decide := true) (maxSteps := 4000000) [ini, g_dsame, dsameC_eq]
  intro m hl
  have h1000 : t.length ≤ 1000 := hr.1
  refine ex_loopN 6 (.int .i64) rfl (σ := Nat × Nat × List Int) [6, 7, 8, 16, 17, 18, 19, 20, 21, 22, 23, 24, 25, 26, 27, 28, 29, 30, 31, 32, 33, 34, 35, 36] (fun a => [(16, .val (.int .i64) (a.1 : Int)), (6, .own a.2.1 (.int .i64) a.2.2)]) (fun a => a.1 ≤ t.length ∧ a.2.2 = deadN t u a.1) (fun a => t.length - a.1) (fun m => ⟨(0, m, []), ⟨Nat.zero_le _, rfl⟩, hc rfl (hc rfl hn)⟩) ?_
  rintro m2 j ⟨i, q, row⟩ ⟨hi, hrow⟩
  simp only at hi hrow
  simp (implicitDefEqProofs := false) (decide := true) (maxSteps := 4000000) [ini, g_dsame, dsameC_eq]
  have hn := deadN_len t u i
  have hs := deadN_succ t u i
  have w : IntKind.i64.wrap ((i : Int) + 1) = ((i + 1 : Nat) : Int) := w_nat rfl (by omega)
  rw [w]
  refine br_dec (fun hlt => ⟨hlt, ?_⟩) fun hge => ?_
  · have hg : t[i]?.getD ((0, 0, { data := #[] }, ()) : Node) = t.getD i dfltN := by rw [List.getD_eq_getElem?_getD]; rfl
    rw [hg]
    refine br_intro (fun h => br_intro (fun h2 m3 => ?_) fun h2 => ?_) fun h => ?_
    · refine ⟨by rw [hrow]; omega, i + 1, _, _, ⟨hlt, ?_⟩, by omega, rfl, rfl, rfl⟩
      have hp : deadP t u i = true := by rw [deadP, h2, show (!((t.getD i dfltN).1 == 0)) = true from h]; rfl
      rw [hs, if_pos hp, hrow]
    · refine ⟨i + 1, _, _, ⟨hlt, ?_⟩, by omega, rfl, rfl, rfl⟩
      have hp : deadP t u i = false := by rw [deadP, h2, Bool.and_false]
      rw [hs, if_neg (by rw [hp]; decide), List.append_nil, hrow]
    · refine ⟨i + 1, _, _, ⟨hlt, ?_⟩, by omega, rfl, rfl, rfl⟩
      have hp : deadP t u i = false := by rw [deadP, show (!((t.getD i dfltN).1 == 0)) = false from h, Bool.false_and]
      rw [hs, if_neg (by rw [hp]; decide), List.append_nil, hrow]
  · obtain rfl : i = t.length := by omega
    exact hrow
theorem ddead_ok : ConOK Try.prog 19 ddeadC := by
  refine con_ok tab_ok (Γ := Γddead) (consOK_cons dsame_ok consOK_nil) (by kernel_rfl) Try.func19 (by kernel_rfl) ?_
  intro args out h
  obtain ⟨x, e, h1⟩ := conN_inv h
  clear h
  obtain ⟨t, u, x0⟩ := x
  subst e
  replace h1 : (if t.length ≤ 1000 ∧ u.length ≤ 1000 then some ⟨.own (.int .i64) (deadD t u), []⟩ else none) = some out := h1
  split at h1
  case isFalse => cases h1
  rename_i hr
  injection h1 with h1
  subst h1
  exact ⟨by rw [mkArgs_len]; decide, ddead_ex t u hr⟩
/-- The contract of glacisref20.SameInts. -/
def rsameIC : Con := conN [(.v, .slice (.int .i64)), (.v, .slice (.int .i64))] fun (a, b, _) => some ⟨.val ⟨.bool, decide (a = b)⟩, []⟩
theorem rsameIC_eq {a : List Int} {b : List Int} : rsameIC [.val ⟨.slice (.int .i64), a⟩, .val ⟨.slice (.int .i64), b⟩] = some ⟨.val ⟨.bool, decide (a = b)⟩, []⟩ := conN_mk (ks := [(.v, .slice (.int .i64)), (.v, .slice (.int .i64))]) (a, b, ())
def ΓrsameI : Cons := cons []
theorem rsameI_ex (a : List Int) (b : List Int) : Ex tab ΓrsameI (Try.f18.body.getD .skip) (EndsF tab Try.f18.results.toList [.val ⟨.slice (.int .i64), a⟩, .val ⟨.slice (.int .i64), b⟩] ⟨.val ⟨.bool, decide (a = b)⟩, []⟩) (ini [.val ⟨.slice (.int .i64), a⟩, .val ⟨.slice (.int .i64), b⟩]) := by
  simp only [Try.f18, Option.getD_some]
  simp (implicitDefEqProofs := false) (decide := true) (maxSteps := 4000000) [ini]
  intro hla hlb
  have hla : a.length ≤ 9223372036854775807 := hla
  refine br_intro (fun h e => by rw [e] at h; simp at h) fun h => ?_
  have hl : a.length = b.length := Int.ofNat.inj (by simpa using h)
  refine ex_loopU (σ := Nat) [4, 5, 11, 12, 13, 14, 15, 16, 17, 18, 19, 20, 21, 22, 23, 24, 25] (fun s => [(5, .val (.int .i64) (s : Int))]) (fun s => s ≤ a.length ∧ a.take s = b.take s) (fun s => a.length - s) 0 ⟨by simp, by simp⟩ (hc rfl hn) ?_
  rintro j i ⟨hi, he⟩
  simp (implicitDefEqProofs := false) (decide := true) [ini]
  intro _
  refine br_dec (fun hlt => ⟨hlt, by omega, br_intro (fun h e => ?_) fun h => ⟨i + 1, ⟨by omega, ?_⟩, by omega, w_nat rfl (by omega)⟩⟩) fun hge => ?_
  · rw [e] at h; simp at h
  · have h : a[i]?.getD 0 = b[i]?.getD 0 := by simpa using h
    rw [List.getElem?_eq_getElem hlt, List.getElem?_eq_getElem (by omega)] at h
    rw [List.take_succ_eq_append_getElem hlt, List.take_succ_eq_append_getElem (by omega), he]
    simp only [Option.getD_some] at h
    rw [h]
  · obtain rfl : i = a.length := by omega
    rw [List.take_length, hl, List.take_length] at he
    exact he
theorem rsameI_ok : ConOK Try.prog 18 rsameIC := by
  refine con_ok tab_ok (Γ := ΓrsameI) consOK_nil (by kernel_rfl) Try.func18 (by kernel_rfl) ?_
  intro args out h
  obtain ⟨x, e, h1⟩ := conN_inv h
  clear h
  obtain ⟨a, b, x0⟩ := x
  subst e
  replace h1 : (some ⟨.val ⟨.bool, decide (a = b)⟩, []⟩) = some out := h1
  injection h1 with h1
  subst h1
  exact ⟨by rw [mkArgs_len]; decide, rsameI_ex a b⟩
/-- The contract of diff.Made. -/
def dmadeC : Con := conN [(.v, .slice (.prod (.int .i64) (.prod (.int .i64) (.prod .str .unit)))), (.v, .slice (.prod (.int .i64) (.prod (.int .i64) (.prod .str .unit))))] fun (t, u, _) => if t.length ≤ 1000 ∧ u.length ≤ 1000 then some ⟨.own (.int .i64) (deadD u t), []⟩ else none
theorem dmadeC_eq {t : List (Ty.den (.prod (.int .i64) (.prod (.int .i64) (.prod .str .unit))))} {u : List (Ty.den (.prod (.int .i64) (.prod (.int .i64) (.prod .str .unit))))} : dmadeC [.val ⟨.slice (.prod (.int .i64) (.prod (.int .i64) (.prod .str .unit))), t⟩, .val ⟨.slice (.prod (.int .i64) (.prod (.int .i64) (.prod .str .unit))), u⟩] = if t.length ≤ 1000 ∧ u.length ≤ 1000 then some ⟨.own (.int .i64) (deadD u t), []⟩ else none := conN_mk (ks := [(.v, .slice (.prod (.int .i64) (.prod (.int .i64) (.prod .str .unit)))), (.v, .slice (.prod (.int .i64) (.prod (.int .i64) (.prod .str .unit))))]) (t, u, ())
def Γdmade : Cons := cons [(19, ddeadC)]
theorem dmade_ex (t : List (Ty.den (.prod (.int .i64) (.prod (.int .i64) (.prod .str .unit))))) (u : List (Ty.den (.prod (.int .i64) (.prod (.int .i64) (.prod .str .unit))))) (hr : t.length ≤ 1000 ∧ u.length ≤ 1000) : Ex tab Γdmade (Try.f21.body.getD .skip) (EndsF tab Try.f21.results.toList [.val ⟨.slice (.prod (.int .i64) (.prod (.int .i64) (.prod .str .unit))), t⟩, .val ⟨.slice (.prod (.int .i64) (.prod (.int .i64) (.prod .str .unit))), u⟩] ⟨.own (.int .i64) (deadD u t), []⟩) (ini [.val ⟨.slice (.prod (.int .i64) (.prod (.int .i64) (.prod .str .unit))), t⟩, .val ⟨.slice (.prod (.int .i64) (.prod (.int .i64) (.prod .str .unit))), u⟩]) := by
  have g_ddead : Γdmade 19 = some ddeadC := rfl
  simp only [Try.f21, Option.getD_some]
  simp (implicitDefEqProofs := false) (decide := true) (maxSteps := 4000000) [ini, g_ddead, ddeadC_eq]
  exact ⟨hr.2, hr.1⟩
theorem dmade_ok : ConOK Try.prog 21 dmadeC := by
  refine con_ok tab_ok (Γ := Γdmade) (consOK_cons ddead_ok consOK_nil) (by kernel_rfl) Try.func21 (by kernel_rfl) ?_
  intro args out h
  obtain ⟨x, e, h1⟩ := conN_inv h
  clear h
  obtain ⟨t, u, x0⟩ := x
  subst e
  replace h1 : (if t.length ≤ 1000 ∧ u.length ≤ 1000 then some ⟨.own (.int .i64) (deadD u t), []⟩ else none) = some out := h1
  split at h1
  case isFalse => cases h1
  rename_i hr
  injection h1 with h1
  subst h1
  exact ⟨by rw [mkArgs_len]; decide, dmade_ex t u hr⟩
theorem deadP_eq {t u : List Node} {k : Nat} (h : k < t.length) (hl : t.length = u.length) : deadP t u k = (!((t.getD k dfltN).1 == 0) && !((t.getD k dfltN).1 == (u.getD k dfltN).1)) := by
  have k1 : kindD t ((k + 1 : Nat) : Int) = (t.getD k dfltN).1 := by
    rw [kindD_in (by omega) (by omega), List.getD_eq_getElem?_getD, show (((k + 1 : Nat) : Int) - 1).toNat = k by omega]
  have k2 : kindD u ((k + 1 : Nat) : Int) = (u.getD k dfltN).1 := by
    rw [kindD_in (by omega) (by omega), List.getD_eq_getElem?_getD, show (((k + 1 : Nat) : Int) - 1).toNat = k by omega]
  unfold deadP sameD
  simp only
  rw [k1, k2]
  generalize (t.getD k dfltN).1 = x
  generalize (u.getD k dfltN).1 = y
  by_cases hx : x = 0 <;> by_cases hy : x = y <;> simp [hx, hy]
/-- The contract of glacisref20.Dead. -/
def rdeadC : Con := conN [(.v, .slice (.prod (.int .i64) (.prod (.int .i64) (.prod .str .unit)))), (.v, .slice (.prod (.int .i64) (.prod (.int .i64) (.prod .str .unit))))] fun (t, u, _) => if t.length ≤ 1000 ∧ t.length = u.length then some ⟨.own (.int .i64) (deadD t u), []⟩ else none
theorem rdeadC_eq {t : List (Ty.den (.prod (.int .i64) (.prod (.int .i64) (.prod .str .unit))))} {u : List (Ty.den (.prod (.int .i64) (.prod (.int .i64) (.prod .str .unit))))} : rdeadC [.val ⟨.slice (.prod (.int .i64) (.prod (.int .i64) (.prod .str .unit))), t⟩, .val ⟨.slice (.prod (.int .i64) (.prod (.int .i64) (.prod .str .unit))), u⟩] = if t.length ≤ 1000 ∧ t.length = u.length then some ⟨.own (.int .i64) (deadD t u), []⟩ else none := conN_mk (ks := [(.v, .slice (.prod (.int .i64) (.prod (.int .i64) (.prod .str .unit)))), (.v, .slice (.prod (.int .i64) (.prod (.int .i64) (.prod .str .unit))))]) (t, u, ())
def Γrdead : Cons := cons []
theorem rdead_ex (t : List (Ty.den (.prod (.int .i64) (.prod (.int .i64) (.prod .str .unit))))) (u : List (Ty.den (.prod (.int .i64) (.prod (.int .i64) (.prod .str .unit))))) (hr : t.length ≤ 1000 ∧ t.length = u.length) : Ex tab Γrdead (Try.f20.body.getD .skip) (EndsF tab Try.f20.results.toList [.val ⟨.slice (.prod (.int .i64) (.prod (.int .i64) (.prod .str .unit))), t⟩, .val ⟨.slice (.prod (.int .i64) (.prod (.int .i64) (.prod .str .unit))), u⟩] ⟨.own (.int .i64) (deadD t u), []⟩) (ini [.val ⟨.slice (.prod (.int .i64) (.prod (.int .i64) (.prod .str .unit))), t⟩, .val ⟨.slice (.prod (.int .i64) (.prod (.int .i64) (.prod .str .unit))), u⟩]) := by
  simp only [Try.f20, Option.getD_some]
  simp (implicitDefEqProofs := false) (decide := true) (maxSteps := 4000000) [ini]
  obtain ⟨h1000, hlu⟩ := hr
  refine ex_loopN 5 (.int .i64) rfl (σ := Nat × Nat × List Int) [5, 6, 7, 8, 9, 10, 11, 12, 13, 14, 15, 16, 17, 18, 19, 20, 21, 22, 23, 24, 25, 26, 27, 28, 29, 30, 31, 32, 33, 34, 35, 36, 37, 38, 39, 40, 41, 42, 43, 44] (fun a => [(6, .val (.int .i64) ((a.1 + 1 : Nat) : Int)), (5, .own a.2.1 (.int .i64) a.2.2)]) (fun a => a.1 ≤ t.length ∧ a.2.2 = deadN t u a.1) (fun a => t.length - a.1) (fun m => ⟨(0, m, []), ⟨Nat.zero_le _, rfl⟩, hc rfl (hc rfl hn)⟩) ?_
  rintro m2 j ⟨i, q, row⟩ ⟨hi, hrow⟩
  simp only at hi hrow
  simp (implicitDefEqProofs := false) (decide := true) (maxSteps := 4000000) [ini]
  intro hl
  have hn := deadN_len t u i
  have hs := deadN_succ t u i
  have w : IntKind.i64.wrap (i : Int) = (i : Int) := w_nat rfl (by omega)
  have w2 : IntKind.i64.wrap ((i : Int) + 1 + 1) = ((i + 1 : Nat) : Int) + 1 := by rw [i64_in _ (by omega)]; omega
  have hend : ¬ (i : Int) + 1 ≤ (t.length : Int) → row = deadD t u := fun h => by
    have e : i = t.length := by omega
    rw [hrow, e]; rfl
  refine br_dec (fun hle hlu2 => br_dec (fun hle2 => ?_) fun h => hend (by rw [hlu]; exact h)) hend
  have hlt : i < t.length := by omega
  have hp := deadP_eq hlt hlu
  rw [w, Int.toNat_natCast]
  have hg : t[i]?.getD ((0, 0, { data := #[] }, ()) : Node) = t.getD i dfltN := by rw [List.getD_eq_getElem?_getD]; rfl
  have hgu : u[i]?.getD ((0, 0, { data := #[] }, ()) : Node) = u.getD i dfltN := by rw [List.getD_eq_getElem?_getD]; rfl
  rw [hg, hgu]
  refine ⟨⟨by omega, by omega⟩, br_intro (fun h => ⟨⟨by omega, by omega⟩, ⟨by omega, by omega⟩, br_intro (fun h2 m3 => ?_) fun h2 => ?_⟩) fun h => ?_⟩
  · refine ⟨by rw [hrow]; omega, i + 1, _, _, ⟨hlt, ?_⟩, by omega, w2, rfl, rfl⟩
    rw [hs, if_pos (by rw [hp, show (!((t.getD i dfltN).1 == 0)) = true from h]; exact h2), hrow]; rfl
  · refine ⟨i + 1, _, _, ⟨hlt, ?_⟩, by omega, w2, rfl, rfl⟩
    rw [hs, if_neg (by rw [hp, show (!((t.getD i dfltN).1 == (u.getD i dfltN).1)) = false from h2, Bool.and_false]; decide), List.append_nil, hrow]
  · refine ⟨i + 1, _, _, ⟨hlt, ?_⟩, by omega, w2, rfl, rfl⟩
    rw [hs, if_neg (by rw [hp, show (!((t.getD i dfltN).1 == 0)) = false from h, Bool.false_and]; decide), List.append_nil, hrow]
theorem rdead_ok : ConOK Try.prog 20 rdeadC := by
  refine con_ok tab_ok (Γ := Γrdead) consOK_nil (by kernel_rfl) Try.func20 (by kernel_rfl) ?_
  intro args out h
  obtain ⟨x, e, h1⟩ := conN_inv h
  clear h
  obtain ⟨t, u, x0⟩ := x
  subst e
  replace h1 : (if t.length ≤ 1000 ∧ t.length = u.length then some ⟨.own (.int .i64) (deadD t u), []⟩ else none) = some out := h1
  split at h1
  case isFalse => cases h1
  rename_i hr
  injection h1 with h1
  subst h1
  exact ⟨by rw [mkArgs_len]; decide, rdead_ex t u hr⟩
/-- The contract of glacisref20.Made. -/
def rmadeC : Con := conN [(.v, .slice (.prod (.int .i64) (.prod (.int .i64) (.prod .str .unit)))), (.v, .slice (.prod (.int .i64) (.prod (.int .i64) (.prod .str .unit))))] fun (t, u, _) => if t.length ≤ 1000 ∧ t.length = u.length then some ⟨.own (.int .i64) (deadD u t), []⟩ else none
theorem rmadeC_eq {t : List (Ty.den (.prod (.int .i64) (.prod (.int .i64) (.prod .str .unit))))} {u : List (Ty.den (.prod (.int .i64) (.prod (.int .i64) (.prod .str .unit))))} : rmadeC [.val ⟨.slice (.prod (.int .i64) (.prod (.int .i64) (.prod .str .unit))), t⟩, .val ⟨.slice (.prod (.int .i64) (.prod (.int .i64) (.prod .str .unit))), u⟩] = if t.length ≤ 1000 ∧ t.length = u.length then some ⟨.own (.int .i64) (deadD u t), []⟩ else none := conN_mk (ks := [(.v, .slice (.prod (.int .i64) (.prod (.int .i64) (.prod .str .unit)))), (.v, .slice (.prod (.int .i64) (.prod (.int .i64) (.prod .str .unit))))]) (t, u, ())
def Γrmade : Cons := cons [(20, rdeadC)]
theorem rmade_ex (t : List (Ty.den (.prod (.int .i64) (.prod (.int .i64) (.prod .str .unit))))) (u : List (Ty.den (.prod (.int .i64) (.prod (.int .i64) (.prod .str .unit))))) (hr : t.length ≤ 1000 ∧ t.length = u.length) : Ex tab Γrmade (Try.f22.body.getD .skip) (EndsF tab Try.f22.results.toList [.val ⟨.slice (.prod (.int .i64) (.prod (.int .i64) (.prod .str .unit))), t⟩, .val ⟨.slice (.prod (.int .i64) (.prod (.int .i64) (.prod .str .unit))), u⟩] ⟨.own (.int .i64) (deadD u t), []⟩) (ini [.val ⟨.slice (.prod (.int .i64) (.prod (.int .i64) (.prod .str .unit))), t⟩, .val ⟨.slice (.prod (.int .i64) (.prod (.int .i64) (.prod .str .unit))), u⟩]) := by
  have g_rdead : Γrmade 20 = some rdeadC := rfl
  simp only [Try.f22, Option.getD_some]
  simp (implicitDefEqProofs := false) (decide := true) (maxSteps := 4000000) [ini, g_rdead, rdeadC_eq]
  exact ⟨by omega, hr.2.symm⟩
theorem rmade_ok : ConOK Try.prog 22 rmadeC := by
  refine con_ok tab_ok (Γ := Γrmade) (consOK_cons rdead_ok consOK_nil) (by kernel_rfl) Try.func22 (by kernel_rfl) ?_
  intro args out h
  obtain ⟨x, e, h1⟩ := conN_inv h
  clear h
  obtain ⟨t, u, x0⟩ := x
  subst e
  replace h1 : (if t.length ≤ 1000 ∧ t.length = u.length then some ⟨.own (.int .i64) (deadD u t), []⟩ else none) = some out := h1
  split at h1
  case isFalse => cases h1
  rename_i hr
  injection h1 with h1
  subst h1
  exact ⟨by rw [mkArgs_len]; decide, rmade_ex t u hr⟩
/-- The contract of glacisref20.SameEntries. -/
def rsameEC : Con := conN [(.v, .slice (.prod (.int .i64) (.prod .str (.prod (.int .i64) .unit)))), (.v, .slice (.prod (.int .i64) (.prod .str (.prod (.int .i64) .unit))))] fun (a, b, _) => some ⟨.val ⟨.bool, decide (a = b)⟩, []⟩
theorem rsameEC_eq {a : List (Ty.den (.prod (.int .i64) (.prod .str (.prod (.int .i64) .unit))))} {b : List (Ty.den (.prod (.int .i64) (.prod .str (.prod (.int .i64) .unit))))} : rsameEC [.val ⟨.slice (.prod (.int .i64) (.prod .str (.prod (.int .i64) .unit))), a⟩, .val ⟨.slice (.prod (.int .i64) (.prod .str (.prod (.int .i64) .unit))), b⟩] = some ⟨.val ⟨.bool, decide (a = b)⟩, []⟩ := conN_mk (ks := [(.v, .slice (.prod (.int .i64) (.prod .str (.prod (.int .i64) .unit)))), (.v, .slice (.prod (.int .i64) (.prod .str (.prod (.int .i64) .unit))))]) (a, b, ())
def ΓrsameE : Cons := cons []
theorem rsameE_ex (a : List (Ty.den (.prod (.int .i64) (.prod .str (.prod (.int .i64) .unit))))) (b : List (Ty.den (.prod (.int .i64) (.prod .str (.prod (.int .i64) .unit))))) : Ex tab ΓrsameE (Try.f36.body.getD .skip) (EndsF tab Try.f36.results.toList [.val ⟨.slice (.prod (.int .i64) (.prod .str (.prod (.int .i64) .unit))), a⟩, .val ⟨.slice (.prod (.int .i64) (.prod .str (.prod (.int .i64) .unit))), b⟩] ⟨.val ⟨.bool, decide (a = b)⟩, []⟩) (ini [.val ⟨.slice (.prod (.int .i64) (.prod .str (.prod (.int .i64) .unit))), a⟩, .val ⟨.slice (.prod (.int .i64) (.prod .str (.prod (.int .i64) .unit))), b⟩]) := by
  simp only [Try.f36, Option.getD_some]
  simp (implicitDefEqProofs := false) (decide := true) (maxSteps := 4000000) [ini]
  intro hla hlb
  have hla : a.length ≤ 9223372036854775807 := hla
  refine br_intro (fun h e => by rw [e] at h; simp at h) fun h => ?_
  have hl : a.length = b.length := Int.ofNat.inj (by simpa using h)
  refine ex_loopU (σ := Nat) [4, 5, 11, 12, 13, 14, 15, 16, 17, 18, 19, 20, 21, 22, 23, 24, 25] (fun s => [(5, .val (.int .i64) (s : Int))]) (fun s => s ≤ a.length ∧ a.take s = b.take s) (fun s => a.length - s) 0 ⟨by simp, by simp⟩ (hc rfl hn) ?_
  rintro j i ⟨hi, he⟩
  simp (implicitDefEqProofs := false) (decide := true) [ini]
  intro _
  refine br_dec (fun hlt => ⟨hlt, by omega, br_intro (fun h e => ?_) fun h => ⟨i + 1, ⟨by omega, ?_⟩, by omega, w_nat rfl (by omega)⟩⟩) fun hge => ?_
  · rw [e, same_refl (t := EnT) (by decide)] at h; cases h
  · have h : a[i]?.getD ((0, { data := #[] }, 0, ()) : En) = b[i]?.getD ((0, { data := #[] }, 0, ()) : En) := same_eq (t := EnT) (by decide) (not_f h)
    rw [List.getElem?_eq_getElem hlt, List.getElem?_eq_getElem (by omega)] at h
    rw [List.take_succ_eq_append_getElem hlt, List.take_succ_eq_append_getElem (by omega), he]
    simp only [Option.getD_some] at h
    rw [h]
  · obtain rfl : i = a.length := by omega
    rw [List.take_length, hl, List.take_length] at he
    exact he
theorem rsameE_ok : ConOK Try.prog 36 rsameEC := by
  refine con_ok tab_ok (Γ := ΓrsameE) consOK_nil (by kernel_rfl) Try.func36 (by kernel_rfl) ?_
  intro args out h
  obtain ⟨x, e, h1⟩ := conN_inv h
  clear h
  obtain ⟨a, b, x0⟩ := x
  subst e
  replace h1 : (some ⟨.val ⟨.bool, decide (a = b)⟩, []⟩) = some out := h1
  injection h1 with h1
  subst h1
  exact ⟨by rw [mkArgs_len]; decide, rsameE_ex a b⟩
end Go.Proofs.Ytahefjfkfmoplaa
