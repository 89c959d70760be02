/- The reference's folders and trees, walked. -/
import Derived.Test.YthhjlbpmpffapaaGreatDoorRef6b
set_option maxRecDepth 100000
set_option maxHeartbeats 1000000
set_option linter.unusedSimpArgs false
set_option linter.unusedVariables false
set_option pp.deepTerms.threshold 60
namespace Go.Proofs.YthhjlbpmpffapaaGreatDoor
open Go.Tm Go.IntWalk
theorem split_at {α : Type} {l : List α} {i : Nat} (h : i < l.length) : ∃ x, l.drop i = x :: l.drop (i + 1) ∧ (∀ d, l[i]?.getD d = x) ∧ x ∈ l ∧ l.take (i + 1) = l.take i ++ [x] :=
  ⟨l[i], List.drop_eq_getElem_cons h, fun d => by rw [List.getElem?_eq_getElem h]; rfl, List.getElem_mem h, List.take_succ_eq_append_getElem h⟩
/-- The contract of glacisref6.With. -/
def rwithDC : Con := conN [(.v, .slice EntT), (.v, EntT)] fun (l, e, _) => if l.length ≤ 1000000 then some ⟨.tup [⟨.slice EntT, (withD l e).1⟩, ⟨.bool, (withD l e).2⟩], []⟩ else none
theorem rwithDC_eq {l : List (Ty.den (EntT))} {e : Ty.den (EntT)} : rwithDC [.val ⟨.slice EntT, l⟩, .val ⟨EntT, e⟩] = if l.length ≤ 1000000 then some ⟨.tup [⟨.slice EntT, (withD l e).1⟩, ⟨.bool, (withD l e).2⟩], []⟩ else none := conN_mk (ks := [(.v, .slice EntT), (.v, EntT)]) (l, e, ())
def ΓrwithD : Cons := cons [(45, rfindDC)]
theorem rwithD_ex (l : List (Ty.den (EntT))) (e : Ty.den (EntT)) (hr : l.length ≤ 1000000) : Ex tab ΓrwithD (Tryz.f60.body.getD .skip) (EndsF tab Tryz.f60.results.toList [.val ⟨.slice EntT, l⟩, .val ⟨EntT, e⟩] ⟨.tup [⟨.slice EntT, (withD l e).1⟩, ⟨.bool, (withD l e).2⟩], []⟩) (ini [.val ⟨.slice EntT, l⟩, .val ⟨EntT, e⟩]) := by
  have g_rfindD : ΓrwithD 45 = some rfindDC := rfl
  simp only [Tryz.f60, Option.getD_some]
  simp (implicitDefEqProofs := false) (decide := true) (maxSteps := 4000000) [ini, g_rfindD, rfindDC_eq]
  intro m0
  refine br_intro (fun h => ?_) fun h0 => ?_
  · rw [withD, if_pos h]; exact ⟨rfl, rfl⟩
  have hw : withD l e = (insD e l, true) := by rw [withD, if_neg (by rw [h0]; decide)]
  refine ex_loopN 8 EntT rfl (σ := Nat × Bool × Nat × List Ent) [8, 9, 10, 20, 21, 22, 23, 24, 25, 26, 27, 28, 29, 30, 31, 32, 33, 34, 35, 36, 37, 38, 39, 40, 41, 42, 43, 44, 45, 46, 47, 48] (fun a => [(10, .val (.int .i64) (a.1 : Int)), (9, .val .bool a.2.1), (8, .own a.2.2.1 EntT a.2.2.2)])
    (fun a => a.1 ≤ l.length ∧ a.2.2.2.length ≤ a.1 + a.2.1.toNat ∧ a.2.2.2 ++ (if a.2.1 = true then l.drop a.1 else insD e (l.drop a.1)) = insD e l) (fun a => l.length - a.1) (fun m => ⟨(0, false, m, []), ⟨Nat.zero_le _, Nat.zero_le _, rfl⟩, hc rfl (hc rfl (hc rfl hn))⟩) ?_
  rintro m j ⟨i, put', q, out⟩ ⟨hi, hol, hp⟩
  simp only at hi hol hp
  cases put' with
  | false =>
    simp (implicitDefEqProofs := false) (decide := true) (maxSteps := 4000000) [ini, g_rfindD, rfindDC_eq]
    intro _
    have hol : out.length ≤ i := hol
    rw [if_neg (by decide)] at hp
    refine br_dec (fun hlt => ⟨hlt, ?_⟩) fun hge => ⟨by omega, ?_⟩
    · obtain ⟨x, hd, hx, _, _⟩ := split_at hlt
      rw [gtr_eq', hx]
      rw [hd, insD] at hp
      refine br_intro (fun h => ⟨by omega, fun m2 => ⟨hlt, by omega, i + 1, _, _, ⟨by omega, by simp; omega, ?_⟩, by omega, w_nat rfl (by omega), rfl, rfl⟩⟩) fun h m2 => ⟨hlt, by omega, i + 1, _, _, ⟨by omega, by simp; omega, ?_⟩, by omega, w_nat rfl (by omega), rfl, rfl⟩
      · rw [if_pos h] at hp
        rw [List.append_assoc]; exact hp
      · rw [if_neg (by rw [h]; decide)] at hp
        rw [List.append_assoc]; exact hp
    · rw [List.drop_eq_nil_of_le (by omega)] at hp
      rw [hw, ← hp]; exact ⟨rfl, rfl⟩
  | true =>
    simp (implicitDefEqProofs := false) (decide := true) (maxSteps := 4000000) [ini, g_rfindD, rfindDC_eq]
    intro _
    have hol : out.length ≤ i + 1 := hol
    rw [if_pos rfl] at hp
    refine br_dec (fun hlt m2 => ⟨hlt, ?_⟩) fun hge => ?_
    · obtain ⟨x, hd, hx, _, _⟩ := split_at hlt
      rw [hx]
      rw [hd] at hp
      exact ⟨by omega, i + 1, _, _, ⟨by omega, by simp; omega, by rw [List.append_assoc]; exact hp⟩, by omega, w_nat rfl (by omega), rfl, rfl⟩
    · rw [List.drop_eq_nil_of_le (by omega), List.append_nil] at hp
      rw [hw, ← hp]; exact ⟨rfl, rfl⟩
theorem rwithD_ok : ConOK Tryz.prog 60 rwithDC := by
  refine con_ok tab_ok (Γ := ΓrwithD) (consOK_cons rfindD_ok consOK_nil) (by kernel_rfl) Tryz.func60 (by kernel_rfl) ?_
  intro args out h
  obtain ⟨x, e, h1⟩ := conN_inv h
  clear h
  obtain ⟨l, e, x0⟩ := x
  subst e
  replace h1 : (if l.length ≤ 1000000 then some ⟨.tup [⟨.slice EntT, (withD l e).1⟩, ⟨.bool, (withD l e).2⟩], []⟩ else none) = some out := h1
  split at h1
  case isFalse => cases h1
  rename_i hr
  injection h1 with h1
  subst h1
  exact ⟨by rw [mkArgs_len]; decide, rwithD_ex l e hr⟩
/-- The contract of glacisref6.Less. -/
def rlessDC : Con := conN [(.v, .slice EntT), (.v, .str)] fun (l, nm, _) => if l.length ≤ 1000000 then some ⟨.tup [⟨.slice EntT, (lessD l nm).1⟩, ⟨.bool, (lessD l nm).2⟩], []⟩ else none
theorem rlessDC_eq {l : List (Ty.den (EntT))} {nm : ByteArray} : rlessDC [.val ⟨.slice EntT, l⟩, .val ⟨.str, nm⟩] = if l.length ≤ 1000000 then some ⟨.tup [⟨.slice EntT, (lessD l nm).1⟩, ⟨.bool, (lessD l nm).2⟩], []⟩ else none := conN_mk (ks := [(.v, .slice EntT), (.v, .str)]) (l, nm, ())
def ΓrlessD : Cons := cons [(45, rfindDC)]
theorem rlessD_ex (l : List (Ty.den (EntT))) (nm : ByteArray) (hr : l.length ≤ 1000000) : Ex tab ΓrlessD (Tryz.f89.body.getD .skip) (EndsF tab Tryz.f89.results.toList [.val ⟨.slice EntT, l⟩, .val ⟨.str, nm⟩] ⟨.tup [⟨.slice EntT, (lessD l nm).1⟩, ⟨.bool, (lessD l nm).2⟩], []⟩) (ini [.val ⟨.slice EntT, l⟩, .val ⟨.str, nm⟩]) := by
  have g_rfindD : ΓrlessD 45 = some rfindDC := rfl
  simp only [Tryz.f89, Option.getD_some]
  simp (implicitDefEqProofs := false) (decide := true) (maxSteps := 4000000) [ini, g_rfindD, rfindDC_eq]
  refine br_intro (fun h => ?_) fun h0 => ?_
  · rw [lessD, if_neg (by simpa using h)]; exact ⟨rfl, rfl⟩
  have hw : lessD l nm = (l.filter fun e => !eqB e.1 nm, true) := by rw [lessD, if_pos (by simpa using h0)]
  refine ex_loopN 8 EntT rfl (σ := Nat × Nat × List Ent) [8, 9, 19, 20, 21, 22, 23, 24, 25, 26, 27, 28, 29, 30, 31, 32, 33, 34, 35, 36, 37, 38] (fun a => [(9, .val (.int .i64) (a.1 : Int)), (8, .own a.2.1 EntT a.2.2)])
    (fun a => a.1 ≤ l.length ∧ a.2.2.length ≤ a.1 ∧ a.2.2 ++ (l.drop a.1).filter (fun e => !eqB e.1 nm) = l.filter fun e => !eqB e.1 nm) (fun a => l.length - a.1) (fun m => ⟨(0, m, []), ⟨Nat.zero_le _, Nat.zero_le _, rfl⟩, hc rfl (hc rfl hn)⟩) ?_
  rintro m j ⟨i, q, out⟩ ⟨hi, hol, hp⟩
  simp only at hi hol hp
  simp (implicitDefEqProofs := false) (decide := true) (maxSteps := 4000000) [ini, g_rfindD, rfindDC_eq]
  intro _
  refine br_dec (fun hlt => ⟨hlt, ?_⟩) fun hge => ?_
  · obtain ⟨x, hd, hx, _, _⟩ := split_at hlt
    rw [eql_eq, hx]
    rw [hd] at hp
    refine br_intro (fun h m2 => ⟨hlt, by omega, i + 1, _, _, ⟨by omega, by simp; omega, ?_⟩, by omega, w_nat rfl (by omega), rfl, rfl⟩) fun h => ⟨i + 1, _, _, ⟨by omega, by omega, ?_⟩, by omega, w_nat rfl (by omega), rfl, rfl⟩
    · rw [List.filter_cons, if_pos (by exact h)] at hp
      rw [List.append_assoc]; exact hp
    · rw [List.filter_cons, if_neg (by rw [show (!eqB x.1 nm) = false from h]; decide)] at hp
      exact hp
  · rw [List.drop_eq_nil_of_le (by omega), List.filter_nil, List.append_nil] at hp
    rw [hw, hp]; exact ⟨rfl, rfl⟩
theorem rlessD_ok : ConOK Tryz.prog 89 rlessDC := by
  refine con_ok tab_ok (Γ := ΓrlessD) (consOK_cons rfindD_ok consOK_nil) (by kernel_rfl) Tryz.func89 (by kernel_rfl) ?_
  intro args out h
  obtain ⟨x, e, h1⟩ := conN_inv h
  clear h
  obtain ⟨l, nm, x0⟩ := x
  subst e
  replace h1 : (if l.length ≤ 1000000 then some ⟨.tup [⟨.slice EntT, (lessD l nm).1⟩, ⟨.bool, (lessD l nm).2⟩], []⟩ else none) = some out := h1
  split at h1
  case isFalse => cases h1
  rename_i hr
  injection h1 with h1
  subst h1
  exact ⟨by rw [mkArgs_len]; decide, rlessD_ex l nm hr⟩
end Go.Proofs.YthhjlbpmpffapaaGreatDoor
