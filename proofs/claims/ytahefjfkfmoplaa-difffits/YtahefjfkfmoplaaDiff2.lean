/- diff: entries; what is gone. -/
import Derived.Test.YtahefjfkfmoplaaDiff1
import Derived.Test.YtahefjfkfmoplaaDir2
import Derived.Test.YtahefjfkfmoplaaRef6c
set_option maxRecDepth 10000
set_option maxHeartbeats 2000000
set_option linter.unusedSimpArgs false
set_option linter.unusedVariables false
set_option pp.deepTerms.threshold 14
namespace Go.Proofs.Ytahefjfkfmoplaa
open Go.Tm Go.IntWalk

def toEn (i : Int) (e : Ent) : En := (i, e.1, e.2.1, ())
def entAt (t : List Node) (i : Nat) : List En := (namesT t ((i + 1 : Nat) : Int)).map (toEn ((i + 1 : Nat) : Int))
def entN (t : List Node) (n : Nat) : List En := (List.range n).flatMap (entAt t)
def entD (t : List Node) : List En := entN t t.length
theorem entN_succ (t : List Node) (n : Nat) : entN t (n + 1) = entN t n ++ entAt t n := by simp [entN, List.range_succ]
theorem entN_len (t : List Node) : ∀ n, (entN t n).length ≤ 40 * n
  | 0 => by simp [entN]
  | n + 1 => by
    rw [entN_succ, List.length_append]
    have := entN_len t n
    have h2 := namesT_len t ((n + 1 : Nat) : Int)
    simp only [entAt, List.length_map]
    omega
/-- The contract of diff.Entries. -/
def dentriesC : Con := conN [(.v, .slice (.prod (.int .i64) (.prod (.int .i64) (.prod .str .unit))))] fun (t, _) => if fitT t then some ⟨.own EnT (entD t), []⟩ else none
theorem dentriesC_eq {t : List (Ty.den (.prod (.int .i64) (.prod (.int .i64) (.prod .str .unit))))} : dentriesC [.val ⟨.slice (.prod (.int .i64) (.prod (.int .i64) (.prod .str .unit))), t⟩] = if fitT t then some ⟨.own EnT (entD t), []⟩ else none := conN_mk (ks := [(.v, .slice (.prod (.int .i64) (.prod (.int .i64) (.prod .str .unit))))]) (t, ())
def Γdentries : Cons := cons [(37, dtakeC)]
theorem dentries_ex (t : List (Ty.den (.prod (.int .i64) (.prod (.int .i64) (.prod .str .unit))))) (hr : fitT t) : Ex tab Γdentries (Try.f14.body.getD .skip) (EndsF tab Try.f14.results.toList [.val ⟨.slice (.prod (.int .i64) (.prod (.int .i64) (.prod .str .unit))), t⟩] ⟨.own EnT (entD t), []⟩) (ini [.val ⟨.slice (.prod (.int .i64) (.prod (.int .i64) (.prod .str .unit))), t⟩]) := by
  have g_dtake : Γdentries 37 = some dtakeC := rfl
  simp only [Try.f14, Option.getD_some]
  simp (implicitDefEqProofs := false) (decide := true) (maxSteps := 4000000) [ini, g_dtake, dtakeC_eq]
  intro hl
  refine ex_loopN 3 EnT rfl (σ := Nat × Nat × List En) [3, 4, 5, 6, 7, 9, 12, 13, 14, 15, 16, 17, 18, 19, 20, 21, 22, 23, 24, 25, 26, 27, 28, 29, 30, 31, 32, 33, 34, 35, 36, 37, 38, 39, 40, 41, 42, 43] (fun a => [(12, .val (.int .i64) (a.1 : Int)), (3, .own a.2.1 EnT a.2.2)]) (fun a => a.1 ≤ t.length ∧ a.2.2 = entN t a.1) (fun a => t.length - a.1) (fun m => ⟨(0, m, []), ⟨Nat.zero_le _, rfl⟩, hc rfl (hc rfl hn)⟩) ?_
  rintro m j ⟨i, q, row⟩ ⟨hi, hrow⟩
  simp only at hi hrow
  simp (implicitDefEqProofs := false) (decide := true) (maxSteps := 4000000) [ini, g_dtake, dtakeC_eq]
  have hl3 := hr.1
  have hcast : (i : Int) + 1 = ((i + 1 : Nat) : Int) := rfl
  refine br_dec (fun hlt m0 => ⟨hlt, ?_⟩) fun hge => ?_
  · have hlt : i < t.length := hlt
    obtain ⟨nd, hnd⟩ : ∃ nd : Node, t[i] = nd := ⟨_, rfl⟩
    have hg : t[i]?.getD (((0, 0, { data := #[] }, ()) : Node)) = nd := by rw [List.getElem?_eq_getElem hlt, hnd]; rfl
    rw [hg]
    have hN : namesT t ((i + 1 : Nat) : Int) = if nd.1 = 2 then (takeD nd.2.2.1).1 else [] := by
      have h1 : nodeT t ((i + 1 : Nat) : Int) = nd := by
        rw [nodeT, show (((i + 1 : Nat) : Int) - 1).toNat = i by omega, List.getD_eq_getElem?_getD]
        exact hg
      unfold namesT kindT bodyT
      rw [h1]
      by_cases h : nd.1 = 2
      · rw [if_pos h, if_neg (by omega)]
      · rw [if_neg h, if_pos (.inr (.inr h))]
    have hsz : nd.2.2.1.size ≤ 4000000000 := hr.2 nd (by rw [← hnd]; exact List.getElem_mem hlt)
    have hnl := namesT_len t ((i + 1 : Nat) : Int)
    have hel := entN_len t i
    have hes : entAt t i = (namesT t ((i + 1 : Nat) : Int)).map (toEn ((i + 1 : Nat) : Int)) := rfl
    refine br_intro (fun h => ?_) fun h => ⟨?_, fun _ => ?_⟩
    · have h : ¬ nd.1 = 2 := by simpa using h
      rw [if_neg h] at hN
      refine ⟨i + 1, _, _, ⟨hlt, ?_⟩, by omega, w_nat rfl (by omega), rfl, rfl⟩
      rw [entN_succ, hes, hN, ← hrow]; simp
    · omega
    · have h : nd.1 = 2 := by simpa using h
      rw [if_pos h] at hN
      rw [hN] at hnl hes
      generalize (takeD nd.2.2.1).1 = N at hnl hes
      refine ex_loopU (σ := Nat × Nat × List En) [3, 9, 28, 29, 30, 31, 32, 33, 34, 35, 36, 37, 38, 39, 40, 41, 42] (fun a => [(28, .val (.int .i64) (a.1 : Int)), (3, .own a.2.1 EnT a.2.2)]) (fun a => a.1 ≤ N.length ∧ a.2.2 = entN t i ++ (N.take a.1).map (toEn ((i + 1 : Nat) : Int))) (fun a => N.length - a.1) (0, _, _) ⟨Nat.zero_le _, by simp [hrow]⟩ (hc rfl (hc rfl hn)) ?_
      rintro j2 ⟨k, q2, row2⟩ ⟨hk, hrow2⟩
      simp only at hk hrow2
      simp (implicitDefEqProofs := false) (decide := true) (maxSteps := 4000000) [ini, g_dtake, dtakeC_eq]
      have hr2 : row2.length ≤ 40 * i + k := by
        rw [hrow2, List.length_append, List.length_map, List.length_take]; omega
      refine br_dec (fun hk2 => ⟨hk2, fun m2 => ⟨by omega, k + 1, _, _, ⟨hk2, ?_⟩, by omega, w_nat rfl (by omega), rfl, rfl⟩⟩) fun hk2 => ?_
      · have w1 : IntKind.i64.wrap ((i : Int) + 1) = (i : Int) + 1 := i64_in _ (by omega)
        rw [w1, hrow2, List.append_assoc, ← List.map_take, List.take_succ_eq_append_getElem hk2, List.map_append, List.getElem?_eq_getElem hk2]
        rfl
      · obtain rfl : k = N.length := by omega
        rw [List.take_length] at hrow2
        refine ⟨i + 1, _, _, ⟨hlt, ?_⟩, by omega, w_nat rfl (by omega), rfl, rfl⟩
        rw [entN_succ, hes, hrow2]
  · obtain rfl : i = t.length := by omega
    exact hrow
theorem dentries_ok : ConOK Try.prog 14 dentriesC := by
  refine con_ok tab_ok (Γ := Γdentries) (consOK_cons dtake_ok consOK_nil) (by kernel_rfl) Try.func14 (by kernel_rfl) ?_
  intro args out h
  obtain ⟨x, e, h1⟩ := conN_inv h
  clear h
  obtain ⟨t, x0⟩ := x
  subst e
  replace h1 : (if fitT t then some ⟨.own EnT (entD t), []⟩ else none) = some out := h1
  split at h1
  case isFalse => cases h1
  rename_i hr
  injection h1 with h1
  subst h1
  exact ⟨by rw [mkArgs_len]; decide, dentries_ex t hr⟩
/-- The contract of glacisref20.Entries. -/
def rentriesC : Con := conN [(.v, .slice (.prod (.int .i64) (.prod (.int .i64) (.prod .str .unit))))] fun (t, _) => if fitT t then some ⟨.own EnT (entD t), []⟩ else none
theorem rentriesC_eq {t : List (Ty.den (.prod (.int .i64) (.prod (.int .i64) (.prod .str .unit))))} : rentriesC [.val ⟨.slice (.prod (.int .i64) (.prod (.int .i64) (.prod .str .unit))), t⟩] = if fitT t then some ⟨.own EnT (entD t), []⟩ else none := conN_mk (ks := [(.v, .slice (.prod (.int .i64) (.prod (.int .i64) (.prod .str .unit))))]) (t, ())
def Γrentries : Cons := cons [(38, rnamesC)]
theorem rentries_ex (t : List (Ty.den (.prod (.int .i64) (.prod (.int .i64) (.prod .str .unit))))) (hr : fitT t) : Ex tab Γrentries (Try.f15.body.getD .skip) (EndsF tab Try.f15.results.toList [.val ⟨.slice (.prod (.int .i64) (.prod (.int .i64) (.prod .str .unit))), t⟩] ⟨.own EnT (entD t), []⟩) (ini [.val ⟨.slice (.prod (.int .i64) (.prod (.int .i64) (.prod .str .unit))), t⟩]) := by
  have g_rnames : Γrentries 38 = some rnamesC := rfl
  simp only [Try.f15, Option.getD_some]
  simp (implicitDefEqProofs := false) (decide := true) (maxSteps := 4000000) [ini, g_rnames, rnamesC_eq]
  refine ex_loopN 3 EnT rfl (σ := Nat × Nat × List En) [3, 4, 5, 6, 7, 8, 9, 10, 11, 12, 13, 14, 15, 16, 17, 18, 19, 20, 21, 22, 23, 24, 25, 26, 27, 28, 29, 30, 31, 32, 33, 34, 35, 36] (fun a => [(4, .val (.int .i64) ((a.1 + 1 : Nat) : Int)), (3, .own a.2.1 EnT a.2.2)]) (fun a => a.1 ≤ t.length ∧ a.2.2 = entN t a.1) (fun a => t.length - a.1) (fun m => ⟨(0, m, []), ⟨Nat.zero_le _, rfl⟩, hc rfl (hc rfl hn)⟩) ?_
  rintro m j ⟨i, q, row⟩ ⟨hi, hrow⟩
  simp only at hi hrow
  simp (implicitDefEqProofs := false) (decide := true) (maxSteps := 4000000) [ini, g_rnames, rnamesC_eq]
  intro hl
  have hl3 := hr.1
  have hcast : (i : Int) + 1 = ((i + 1 : Nat) : Int) := rfl
  refine br_dec (fun hle => ⟨hr, ?_⟩) fun hgt => ?_
  · have hlt : i < t.length := by omega
    rw [hcast]
    have hnl := namesT_len t ((i + 1 : Nat) : Int)
    have hel := entN_len t i
    have hes : entAt t i = (namesT t ((i + 1 : Nat) : Int)).map (toEn ((i + 1 : Nat) : Int)) := rfl
    generalize namesT t ((i + 1 : Nat) : Int) = N at hnl hes
    refine ex_loopU (σ := Nat × Nat × List En) [3, 6, 16, 17, 18, 19, 20, 21, 22, 23, 24, 25, 26, 27, 28, 29, 30, 31, 32, 33, 34, 35, 36] (fun a => [(6, .val (.int .i64) (a.1 : Int)), (3, .own a.2.1 EnT a.2.2)]) (fun a => a.1 ≤ N.length ∧ a.2.2 = entN t i ++ (N.take a.1).map (toEn ((i + 1 : Nat) : Int))) (fun a => N.length - a.1) (0, _, _) ⟨Nat.zero_le _, by simp [hrow]⟩ (hc rfl (hc rfl hn)) ?_
    rintro j2 ⟨k, q2, row2⟩ ⟨hk, hrow2⟩
    simp only at hk hrow2
    simp (implicitDefEqProofs := false) (decide := true) (maxSteps := 4000000) [ini, g_rnames, rnamesC_eq]
    intro _
    have hr2 : row2.length ≤ 40 * i + k := by
      rw [hrow2, List.length_append, List.length_map, List.length_take]; omega
    refine br_dec (fun hk2 m2 => ⟨hk2, by omega, k + 1, _, _, ⟨hk2, ?_⟩, by omega, w_nat rfl (by omega), rfl, rfl⟩) fun hk2 => ?_
    · rw [hrow2, List.append_assoc, ← List.map_take, List.take_succ_eq_append_getElem hk2, List.map_append, List.getElem?_eq_getElem hk2]
      rfl
    · obtain rfl : k = N.length := by omega
      rw [List.take_length] at hrow2
      refine ⟨i + 1, _, _, ⟨hlt, ?_⟩, by omega, (show IntKind.i64.wrap ((i : Int) + 1 + 1) = ((i + 1 : Nat) : Int) + 1 by rw [i64_in _ (by omega)]; omega), rfl, rfl⟩
      rw [entN_succ, hes, hrow2]
  · obtain rfl : i = t.length := by omega
    exact hrow
theorem rentries_ok : ConOK Try.prog 15 rentriesC := by
  refine con_ok tab_ok (Γ := Γrentries) (consOK_cons rnames_ok consOK_nil) (by kernel_rfl) Try.func15 (by kernel_rfl) ?_
  intro args out h
  obtain ⟨x, e, h1⟩ := conN_inv h
  clear h
  obtain ⟨t, x0⟩ := x
  subst e
  replace h1 : (if fitT t then some ⟨.own EnT (entD t), []⟩ else none) = some out := h1
  split at h1
  case isFalse => cases h1
  rename_i hr
  injection h1 with h1
  subst h1
  exact ⟨by rw [mkArgs_len]; decide, rentries_ex t hr⟩

theorem entN_mem {t : List Node} : ∀ {n : Nat} {e : En}, e ∈ entN t n → ∃ k x, k < n ∧ x ∈ namesT t ((k + 1 : Nat) : Int) ∧ e = toEn ((k + 1 : Nat) : Int) x
  | 0, e, h => by simp [entN] at h
  | n + 1, e, h => by
    rw [entN_succ] at h
    rcases List.mem_append.1 h with h | h
    · obtain ⟨k, x, h1, h2, h3⟩ := entN_mem h
      exact ⟨k, x, by omega, h2, h3⟩
    · obtain ⟨x, hx, rfl⟩ := List.mem_map.1 h
      exact ⟨n, x, by omega, hx, rfl⟩
def goneD (t u : List Node) : List En := (entD t).filter fun e => !keptD ((t, ()), (u, ()), ()) (entD u) e
/-- The contract of diff.Gone. -/
def dgoneC : Con := conN [(.v, .slice (.prod (.int .i64) (.prod (.int .i64) (.prod .str .unit)))), (.v, .slice (.prod (.int .i64) (.prod (.int .i64) (.prod .str .unit))))] fun (t, u, _) => if fitT t ∧ fitT u then some ⟨.own EnT (goneD t u), []⟩ else none
theorem dgoneC_eq {t : List (Ty.den (.prod (.int .i64) (.prod (.int .i64) (.prod .str .unit))))} {u : List (Ty.den (.prod (.int .i64) (.prod (.int .i64) (.prod .str .unit))))} : dgoneC [.val ⟨.slice (.prod (.int .i64) (.prod (.int .i64) (.prod .str .unit))), t⟩, .val ⟨.slice (.prod (.int .i64) (.prod (.int .i64) (.prod .str .unit))), u⟩] = if fitT t ∧ fitT u then some ⟨.own EnT (goneD t u), []⟩ else none := conN_mk (ks := [(.v, .slice (.prod (.int .i64) (.prod (.int .i64) (.prod .str .unit)))), (.v, .slice (.prod (.int .i64) (.prod (.int .i64) (.prod .str .unit))))]) (t, u, ())
def Γdgone : Cons := cons [(14, dentriesC), (39, ddeleteC)]
theorem dgone_ex (t : List (Ty.den (.prod (.int .i64) (.prod (.int .i64) (.prod .str .unit))))) (u : List (Ty.den (.prod (.int .i64) (.prod (.int .i64) (.prod .str .unit))))) (hr : fitT t ∧ fitT u) : Ex tab Γdgone (Try.f16.body.getD .skip) (EndsF tab Try.f16.results.toList [.val ⟨.slice (.prod (.int .i64) (.prod (.int .i64) (.prod .str .unit))), t⟩, .val ⟨.slice (.prod (.int .i64) (.prod (.int .i64) (.prod .str .unit))), u⟩] ⟨.own EnT (goneD t u), []⟩) (ini [.val ⟨.slice (.prod (.int .i64) (.prod (.int .i64) (.prod .str .unit))), t⟩, .val ⟨.slice (.prod (.int .i64) (.prod (.int .i64) (.prod .str .unit))), u⟩]) := by
  have g_dentries : Γdgone 14 = some dentriesC := rfl
  have g_ddelete : Γdgone 39 = some ddeleteC := rfl
  simp only [Try.f16, Option.getD_some]
  simp (implicitDefEqProofs := false) (decide := true) (maxSteps := 4000000) [ini, g_dentries, dentriesC_eq, g_ddelete, ddeleteC_eq]
  have hl := entN_len t t.length
  have h3 := hr.1.1
  exact ⟨hr.2, hr.1, by show (entN t t.length).length ≤ _; omega, rfl⟩
theorem dgone_ok : ConOK Try.prog 16 dgoneC := by
  refine con_ok tab_ok (Γ := Γdgone) (consOK_cons dentries_ok (consOK_cons ddelete_ok consOK_nil)) (by kernel_rfl) Try.func16 (by kernel_rfl) ?_
  intro args out h
  obtain ⟨x, e, h1⟩ := conN_inv h
  clear h
  obtain ⟨t, u, x0⟩ := x
  subst e
  replace h1 : (if fitT t ∧ fitT u then some ⟨.own EnT (goneD t u), []⟩ else none) = some out := h1
  split at h1
  case isFalse => cases h1
  rename_i hr
  injection h1 with h1
  subst h1
  exact ⟨by rw [mkArgs_len]; decide, dgone_ex t u hr⟩
/-- The document's: is the entry there? -/
def hasD (u : List Node) (e : En) : Bool := (findD (namesT u e.1) e.2.1).2 && ((findD (namesT u e.1) e.2.1).1 == e.2.2.1)
/-- The contract of glacisref20.has. -/
def rhasC : Con := conN [(.v, .slice (.prod (.int .i64) (.prod (.int .i64) (.prod .str .unit)))), (.v, .prod (.int .i64) (.prod .str (.prod (.int .i64) .unit)))] fun (u, e, _) => if fitT u then some ⟨.val ⟨.bool, hasD u e⟩, []⟩ else none
theorem rhasC_eq {u : List (Ty.den (.prod (.int .i64) (.prod (.int .i64) (.prod .str .unit))))} {e : Ty.den (.prod (.int .i64) (.prod .str (.prod (.int .i64) .unit)))} : rhasC [.val ⟨.slice (.prod (.int .i64) (.prod (.int .i64) (.prod .str .unit))), u⟩, .val ⟨.prod (.int .i64) (.prod .str (.prod (.int .i64) .unit)), e⟩] = if fitT u then some ⟨.val ⟨.bool, hasD u e⟩, []⟩ else none := conN_mk (ks := [(.v, .slice (.prod (.int .i64) (.prod (.int .i64) (.prod .str .unit)))), (.v, .prod (.int .i64) (.prod .str (.prod (.int .i64) .unit)))]) (u, e, ())
def Γrhas : Cons := cons [(38, rnamesC), (46, rfindDC)]
theorem rhas_ex (u : List (Ty.den (.prod (.int .i64) (.prod (.int .i64) (.prod .str .unit))))) (e : Ty.den (.prod (.int .i64) (.prod .str (.prod (.int .i64) .unit)))) (hr : fitT u) : Ex tab Γrhas (Try.f43.body.getD .skip) (EndsF tab Try.f43.results.toList [.val ⟨.slice (.prod (.int .i64) (.prod (.int .i64) (.prod .str .unit))), u⟩, .val ⟨.prod (.int .i64) (.prod .str (.prod (.int .i64) .unit)), e⟩] ⟨.val ⟨.bool, hasD u e⟩, []⟩) (ini [.val ⟨.slice (.prod (.int .i64) (.prod (.int .i64) (.prod .str .unit))), u⟩, .val ⟨.prod (.int .i64) (.prod .str (.prod (.int .i64) .unit)), e⟩]) := by
  have g_rnames : Γrhas 38 = some rnamesC := rfl
  have g_rfindD : Γrhas 46 = some rfindDC := rfl
  simp only [Try.f43, Option.getD_some]
  simp (implicitDefEqProofs := false) (decide := true) (maxSteps := 4000000) [ini, g_rnames, rnamesC_eq, g_rfindD, rfindDC_eq]
  refine ⟨hr, br_intro (fun h => ?_) fun h => ?_⟩
  · rw [hasD, h, Bool.true_and]
  · rw [hasD, h, Bool.false_and]
theorem rhas_ok : ConOK Try.prog 43 rhasC := by
  refine con_ok tab_ok (Γ := Γrhas) (consOK_cons rnames_ok (consOK_cons rfindD_ok consOK_nil)) (by kernel_rfl) Try.func43 (by kernel_rfl) ?_
  intro args out h
  obtain ⟨x, e, h1⟩ := conN_inv h
  clear h
  obtain ⟨u, e, x0⟩ := x
  subst e
  replace h1 : (if fitT u then some ⟨.val ⟨.bool, hasD u e⟩, []⟩ else none) = some out := h1
  split at h1
  case isFalse => cases h1
  rename_i hr
  injection h1 with h1
  subst h1
  exact ⟨by rw [mkArgs_len]; decide, rhas_ex u e hr⟩
def goneP (t u : List Node) (e : En) : Bool := !hasD u e || !(kindT t e.2.2.1 == kindT u e.2.2.1)
def goneR (t u : List Node) : List En := (entD t).filter (goneP t u)
/-- The contract of glacisref20.Gone. -/
def rgoneC : Con := conN [(.v, .slice (.prod (.int .i64) (.prod (.int .i64) (.prod .str .unit)))), (.v, .slice (.prod (.int .i64) (.prod (.int .i64) (.prod .str .unit))))] fun (t, u, _) => if fitT t ∧ fitT u ∧ 9 ≤ t.length ∧ 9 ≤ u.length then some ⟨.own EnT (goneR t u), []⟩ else none
theorem rgoneC_eq {t : List (Ty.den (.prod (.int .i64) (.prod (.int .i64) (.prod .str .unit))))} {u : List (Ty.den (.prod (.int .i64) (.prod (.int .i64) (.prod .str .unit))))} : rgoneC [.val ⟨.slice (.prod (.int .i64) (.prod (.int .i64) (.prod .str .unit))), t⟩, .val ⟨.slice (.prod (.int .i64) (.prod (.int .i64) (.prod .str .unit))), u⟩] = if fitT t ∧ fitT u ∧ 9 ≤ t.length ∧ 9 ≤ u.length then some ⟨.own EnT (goneR t u), []⟩ else none := conN_mk (ks := [(.v, .slice (.prod (.int .i64) (.prod (.int .i64) (.prod .str .unit)))), (.v, .slice (.prod (.int .i64) (.prod (.int .i64) (.prod .str .unit))))]) (t, u, ())
def Γrgone : Cons := cons [(15, rentriesC), (43, rhasC)]
theorem rgone_ex (t : List (Ty.den (.prod (.int .i64) (.prod (.int .i64) (.prod .str .unit))))) (u : List (Ty.den (.prod (.int .i64) (.prod (.int .i64) (.prod .str .unit))))) (hr : fitT t ∧ fitT u ∧ 9 ≤ t.length ∧ 9 ≤ u.length) : Ex tab Γrgone (Try.f17.body.getD .skip) (EndsF tab Try.f17.results.toList [.val ⟨.slice (.prod (.int .i64) (.prod (.int .i64) (.prod .str .unit))), t⟩, .val ⟨.slice (.prod (.int .i64) (.prod (.int .i64) (.prod .str .unit))), u⟩] ⟨.own EnT (goneR t u), []⟩) (ini [.val ⟨.slice (.prod (.int .i64) (.prod (.int .i64) (.prod .str .unit))), t⟩, .val ⟨.slice (.prod (.int .i64) (.prod (.int .i64) (.prod .str .unit))), u⟩]) := by
  have g_rentries : Γrgone 15 = some rentriesC := rfl
  have g_rhas : Γrgone 43 = some rhasC := rfl
  simp only [Try.f17, Option.getD_some]
  simp (implicitDefEqProofs := false) (decide := true) (maxSteps := 4000000) [ini, g_rentries, rentriesC_eq, g_rhas, rhasC_eq]
  obtain ⟨ht, hu, h9, h9u⟩ := hr
  intro m
  refine ⟨ht, ?_⟩
  have hlen := entN_len t t.length
  have h1000 := ht.1
  have h1000u := hu.1
  have hmem : ∀ e ∈ entD t, 1 ≤ e.2.2.1 ∧ e.2.2.1 ≤ 9 := fun e h => by
    obtain ⟨k, x, _, hx, rfl⟩ := entN_mem h
    exact (okE_out (namesT_ok hx)).2
  have hE : (entD t).length ≤ 40000 := by show (entN t t.length).length ≤ _; omega
  unfold goneR
  generalize entD t = E at hmem hE
  refine ex_loopRN 6 rfl 5 EnT rfl (σ := Nat × Nat × List En) [5, 7, 10, 11, 12, 13, 14, 15, 16, 17, 18, 19, 20, 21, 22, 23, 24, 25, 26, 27, 28, 29, 30, 31, 32, 33, 34, 35, 36, 37, 38, 39, 40, 41, 42, 43, 44, 45, 46, 47, 48, 49, 50, 51, 52] (fun a => [(7, .val (.int .i64) (a.1 : Int)), (5, .own a.2.1 EnT a.2.2)])
    (fun a => a.1 ≤ E.length ∧ a.2.2 = (E.take a.1).filter (goneP t u)) (fun a => E.length - a.1) (fun m => ⟨(0, m, []), ⟨Nat.zero_le _, rfl⟩, hc rfl (hc rfl hn)⟩) ?_
  rintro m2 j ⟨i, q, row⟩ ⟨hi, hrow⟩
  simp only at hi hrow
  simp (implicitDefEqProofs := false) (decide := true) (maxSteps := 4000000) [ini, g_rentries, rentriesC_eq, g_rhas, rhasC_eq]
  intro _
  refine br_dec (fun hlt => ⟨hlt, hu, ?_⟩) fun hge => ?_
  · obtain ⟨e, he⟩ : ∃ e : En, E[i] = e := ⟨_, rfl⟩
    have hg : E[i]?.getD ((0, { data := #[] }, 0, ()) : En) = e := by rw [List.getElem?_eq_getElem hlt, he]; rfl
    have htk : E.take (i + 1) = E.take i ++ [e] := by rw [List.take_succ_eq_append_getElem hlt, he]
    obtain ⟨o1, o2⟩ := hmem e (by rw [← he]; exact List.getElem_mem hlt)
    have hrl : row.length ≤ i := by
      rw [hrow]
      have := List.length_filter_le (goneP t u) (E.take i)
      rw [List.length_take] at this
      omega
    have w : IntKind.i64.wrap (e.2.2.1 - 1) = e.2.2.1 - 1 := i64_in _ (by omega)
    have k1 : (t[(e.2.2.1 - 1).toNat]?.getD ((0, 0, { data := #[] }, ()) : Node)).1 = kindT t e.2.2.1 := by rw [kindT, nodeT, List.getD_eq_getElem?_getD]; rfl
    have k2 : (u[(e.2.2.1 - 1).toNat]?.getD ((0, 0, { data := #[] }, ()) : Node)).1 = kindT u e.2.2.1 := by rw [kindT, nodeT, List.getD_eq_getElem?_getD]; rfl
    have yes : goneP t u e = true → row ++ [e] = (E.take (i + 1)).filter (goneP t u) := fun h => by
      rw [htk, List.filter_append, ← hrow, List.filter_cons_of_pos h]; rfl
    have nope : goneP t u e = false → row = (E.take (i + 1)).filter (goneP t u) := fun h => by
      rw [htk, List.filter_append, ← hrow, List.filter_cons_of_neg (by rw [h]; decide)]; simp
    rw [hg, w, k1, k2]
    refine br_intro (fun h m3 => ⟨hlt, by omega, i + 1, _, _, ⟨hlt, ?_⟩, by omega, w_nat rfl (by omega), rfl, rfl⟩) fun h => ⟨hlt, ⟨by omega, by omega⟩, hlt, ⟨by omega, by omega⟩, br_intro (fun h2 m3 => ⟨hlt, by omega, i + 1, _, _, ⟨hlt, ?_⟩, by omega, w_nat rfl (by omega), rfl, rfl⟩) fun h2 => ⟨i + 1, _, _, ⟨hlt, ?_⟩, by omega, w_nat rfl (by omega), rfl, rfl⟩⟩
    · exact yes (by rw [goneP, h]; rfl)
    · exact yes (by rw [goneP, show (!(kindT t e.2.2.1 == kindT u e.2.2.1)) = true from h2]; simp)
    · exact nope (by rw [goneP, show (!(kindT t e.2.2.1 == kindT u e.2.2.1)) = false from h2, h]; rfl)
  · obtain rfl : i = E.length := by omega
    rw [List.take_length] at hrow
    exact hrow
theorem rgone_ok : ConOK Try.prog 17 rgoneC := by
  refine con_ok tab_ok (Γ := Γrgone) (consOK_cons rentries_ok (consOK_cons rhas_ok consOK_nil)) (by kernel_rfl) Try.func17 (by kernel_rfl) ?_
  intro args out h
  obtain ⟨x, e, h1⟩ := conN_inv h
  clear h
  obtain ⟨t, u, x0⟩ := x
  subst e
  replace h1 : (if fitT t ∧ fitT u ∧ 9 ≤ t.length ∧ 9 ≤ u.length then some ⟨.own EnT (goneR t u), []⟩ else none) = some out := h1
  split at h1
  case isFalse => cases h1
  rename_i hr
  injection h1 with h1
  subst h1
  exact ⟨by rw [mkArgs_len]; decide, rgone_ex t u hr⟩
end Go.Proofs.Ytahefjfkfmoplaa
