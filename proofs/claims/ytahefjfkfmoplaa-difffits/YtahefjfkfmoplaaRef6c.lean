/- The reference's folders and trees, walked. -/
import Derived.Test.YtahefjfkfmoplaaRef6b
import Derived.Test.YtahefjfkfmoplaaPTree
set_option maxRecDepth 100000
set_option maxHeartbeats 1000000
set_option linter.unusedSimpArgs false
set_option linter.unusedVariables false
set_option pp.deepTerms.threshold 60
namespace Go.Proofs.Ytahefjfkfmoplaa
open Go.Tm Go.IntWalk
theorem split_at {α : Type} {l : List α} {i : Nat} (h : i < l.length) : ∃ x, l.drop i = x :: l.drop (i + 1) ∧ (∀ d, l[i]?.getD d = x) ∧ x ∈ l ∧ l.take (i + 1) = l.take i ++ [x] :=
  ⟨l[i], List.drop_eq_getElem_cons h, fun d => by rw [List.getElem?_eq_getElem h]; rfl, List.getElem_mem h, List.take_succ_eq_append_getElem h⟩
/-- The contract of glacisref6.With. -/
def rwithDC : Con := conN [(.v, .slice EntT), (.v, EntT)] fun (l, e, _) => if l.length ≤ 1000000 then some ⟨.tup [⟨.slice EntT, (withD l e).1⟩, ⟨.bool, (withD l e).2⟩], []⟩ else none
theorem rwithDC_eq {l : List (Ty.den (EntT))} {e : Ty.den (EntT)} : rwithDC [.val ⟨.slice EntT, l⟩, .val ⟨EntT, e⟩] = if l.length ≤ 1000000 then some ⟨.tup [⟨.slice EntT, (withD l e).1⟩, ⟨.bool, (withD l e).2⟩], []⟩ else none := conN_mk (ks := [(.v, .slice EntT), (.v, EntT)]) (l, e, ())
def ΓrwithD : Cons := cons [(46, rfindDC)]
theorem rwithD_ex (l : List (Ty.den (EntT))) (e : Ty.den (EntT)) (hr : l.length ≤ 1000000) : Ex tab ΓrwithD (Try.f69.body.getD .skip) (EndsF tab Try.f69.results.toList [.val ⟨.slice EntT, l⟩, .val ⟨EntT, e⟩] ⟨.tup [⟨.slice EntT, (withD l e).1⟩, ⟨.bool, (withD l e).2⟩], []⟩) (ini [.val ⟨.slice EntT, l⟩, .val ⟨EntT, e⟩]) := by
  have g_rfindD : ΓrwithD 46 = some rfindDC := rfl
  simp only [Try.f69, Option.getD_some]
  simp (implicitDefEqProofs := false) (decide := true) (maxSteps := 4000000) [ini, g_rfindD, rfindDC_eq]
  intro m0
  refine br_intro (fun h => ?_) fun h0 => ?_
  · rw [withD, if_pos h]; exact ⟨rfl, rfl⟩
  have hw : withD l e = (insD e l, true) := by rw [withD, if_neg (by rw [h0]; decide)]
  refine ex_loopN 8 EntT rfl (σ := Nat × Bool × Nat × List Ent) [8, 9, 10, 20, 21, 22, 23, 24, 25, 26, 27, 28, 29, 30, 31, 32, 33, 34, 35, 36, 37, 38, 39, 40, 41, 42, 43, 44, 45, 46, 47, 48] (fun a => [(10, .val (.int .i64) (a.1 : Int)), (9, .val .bool a.2.1), (8, .own a.2.2.1 EntT a.2.2.2)])
    (fun a => a.1 ≤ l.length ∧ a.2.2.2.length ≤ a.1 + a.2.1.toNat ∧ a.2.2.2 ++ (if a.2.1 = true then l.drop a.1 else insD e (l.drop a.1)) = insD e l) (fun a => l.length - a.1) (fun m => ⟨(0, false, m, []), ⟨Nat.zero_le _, Nat.zero_le _, rfl⟩, hc rfl (hc rfl (hc rfl hn))⟩) ?_
  rintro m j ⟨i, put', q, out⟩ ⟨hi, hol, hp⟩
  simp only at hi hol hp
  cases put' with
  | false =>
    simp (implicitDefEqProofs := false) (decide := true) (maxSteps := 4000000) [ini, g_rfindD, rfindDC_eq]
    intro _
    have hol : out.length ≤ i := hol
    rw [if_neg (by decide)] at hp
    refine br_dec (fun hlt => ⟨hlt, ?_⟩) fun hge => ⟨by omega, ?_⟩
    · obtain ⟨x, hd, hx, _, _⟩ := split_at hlt
      rw [gtr_eq', hx]
      rw [hd, insD] at hp
      refine br_intro (fun h => ⟨by omega, fun m2 => ⟨hlt, by omega, i + 1, _, _, ⟨by omega, by simp; omega, ?_⟩, by omega, w_nat rfl (by omega), rfl, rfl⟩⟩) fun h m2 => ⟨hlt, by omega, i + 1, _, _, ⟨by omega, by simp; omega, ?_⟩, by omega, w_nat rfl (by omega), rfl, rfl⟩
      · rw [if_pos h] at hp
        rw [List.append_assoc]; exact hp
      · rw [if_neg (by rw [h]; decide)] at hp
        rw [List.append_assoc]; exact hp
    · rw [List.drop_eq_nil_of_le (by omega)] at hp
      rw [hw, ← hp]; exact ⟨rfl, rfl⟩
  | true =>
    simp (implicitDefEqProofs := false) (decide := true) (maxSteps := 4000000) [ini, g_rfindD, rfindDC_eq]
    intro _
    have hol : out.length ≤ i + 1 := hol
    rw [if_pos rfl] at hp
    refine br_dec (fun hlt m2 => ⟨hlt, ?_⟩) fun hge => ?_
    · obtain ⟨x, hd, hx, _, _⟩ := split_at hlt
      rw [hx]
      rw [hd] at hp
      exact ⟨by omega, i + 1, _, _, ⟨by omega, by simp; omega, by rw [List.append_assoc]; exact hp⟩, by omega, w_nat rfl (by omega), rfl, rfl⟩
    · rw [List.drop_eq_nil_of_le (by omega), List.append_nil] at hp
      rw [hw, ← hp]; exact ⟨rfl, rfl⟩
theorem rwithD_ok : ConOK Try.prog 69 rwithDC := by
  refine con_ok tab_ok (Γ := ΓrwithD) (consOK_cons rfindD_ok consOK_nil) (by kernel_rfl) Try.func69 (by kernel_rfl) ?_
  intro args out h
  obtain ⟨x, e, h1⟩ := conN_inv h
  clear h
  obtain ⟨l, e, x0⟩ := x
  subst e
  replace h1 : (if l.length ≤ 1000000 then some ⟨.tup [⟨.slice EntT, (withD l e).1⟩, ⟨.bool, (withD l e).2⟩], []⟩ else none) = some out := h1
  split at h1
  case isFalse => cases h1
  rename_i hr
  injection h1 with h1
  subst h1
  exact ⟨by rw [mkArgs_len]; decide, rwithD_ex l e hr⟩
/-- The contract of glacisref6.Less. -/
def rlessDC : Con := conN [(.v, .slice EntT), (.v, .str)] fun (l, nm, _) => if l.length ≤ 1000000 then some ⟨.tup [⟨.slice EntT, (lessD l nm).1⟩, ⟨.bool, (lessD l nm).2⟩], []⟩ else none
theorem rlessDC_eq {l : List (Ty.den (EntT))} {nm : ByteArray} : rlessDC [.val ⟨.slice EntT, l⟩, .val ⟨.str, nm⟩] = if l.length ≤ 1000000 then some ⟨.tup [⟨.slice EntT, (lessD l nm).1⟩, ⟨.bool, (lessD l nm).2⟩], []⟩ else none := conN_mk (ks := [(.v, .slice EntT), (.v, .str)]) (l, nm, ())
def ΓrlessD : Cons := cons [(46, rfindDC)]
theorem rlessD_ex (l : List (Ty.den (EntT))) (nm : ByteArray) (hr : l.length ≤ 1000000) : Ex tab ΓrlessD (Try.f71.body.getD .skip) (EndsF tab Try.f71.results.toList [.val ⟨.slice EntT, l⟩, .val ⟨.str, nm⟩] ⟨.tup [⟨.slice EntT, (lessD l nm).1⟩, ⟨.bool, (lessD l nm).2⟩], []⟩) (ini [.val ⟨.slice EntT, l⟩, .val ⟨.str, nm⟩]) := by
  have g_rfindD : ΓrlessD 46 = some rfindDC := rfl
  simp only [Try.f71, Option.getD_some]
  simp (implicitDefEqProofs := false) (decide := true) (maxSteps := 4000000) [ini, g_rfindD, rfindDC_eq]
  refine br_intro (fun h => ?_) fun h0 => ?_
  · rw [lessD, if_neg (by simpa using h)]; exact ⟨rfl, rfl⟩
  have hw : lessD l nm = (l.filter fun e => !eqB e.1 nm, true) := by rw [lessD, if_pos (by simpa using h0)]
  refine ex_loopN 8 EntT rfl (σ := Nat × Nat × List Ent) [8, 9, 19, 20, 21, 22, 23, 24, 25, 26, 27, 28, 29, 30, 31, 32, 33, 34, 35, 36, 37, 38] (fun a => [(9, .val (.int .i64) (a.1 : Int)), (8, .own a.2.1 EntT a.2.2)])
    (fun a => a.1 ≤ l.length ∧ a.2.2.length ≤ a.1 ∧ a.2.2 ++ (l.drop a.1).filter (fun e => !eqB e.1 nm) = l.filter fun e => !eqB e.1 nm) (fun a => l.length - a.1) (fun m => ⟨(0, m, []), ⟨Nat.zero_le _, Nat.zero_le _, rfl⟩, hc rfl (hc rfl hn)⟩) ?_
  rintro m j ⟨i, q, out⟩ ⟨hi, hol, hp⟩
  simp only at hi hol hp
  simp (implicitDefEqProofs := false) (decide := true) (maxSteps := 4000000) [ini, g_rfindD, rfindDC_eq]
  intro _
  refine br_dec (fun hlt => ⟨hlt, ?_⟩) fun hge => ?_
  · obtain ⟨x, hd, hx, _, _⟩ := split_at hlt
    rw [eql_eq, hx]
    rw [hd] at hp
    refine br_intro (fun h m2 => ⟨hlt, by omega, i + 1, _, _, ⟨by omega, by simp; omega, ?_⟩, by omega, w_nat rfl (by omega), rfl, rfl⟩) fun h => ⟨i + 1, _, _, ⟨by omega, by omega, ?_⟩, by omega, w_nat rfl (by omega), rfl, rfl⟩
    · rw [List.filter_cons, if_pos (by exact h)] at hp
      rw [List.append_assoc]; exact hp
    · rw [List.filter_cons, if_neg (by rw [show (!eqB x.1 nm) = false from h]; decide)] at hp
      exact hp
  · rw [List.drop_eq_nil_of_le (by omega), List.filter_nil, List.append_nil] at hp
    rw [hw, hp]; exact ⟨rfl, rfl⟩
theorem rlessD_ok : ConOK Try.prog 71 rlessDC := by
  refine con_ok tab_ok (Γ := ΓrlessD) (consOK_cons rfindD_ok consOK_nil) (by kernel_rfl) Try.func71 (by kernel_rfl) ?_
  intro args out h
  obtain ⟨x, e, h1⟩ := conN_inv h
  clear h
  obtain ⟨l, nm, x0⟩ := x
  subst e
  replace h1 : (if l.length ≤ 1000000 then some ⟨.tup [⟨.slice EntT, (lessD l nm).1⟩, ⟨.bool, (lessD l nm).2⟩], []⟩ else none) = some out := h1
  split at h1
  case isFalse => cases h1
  rename_i hr
  injection h1 with h1
  subst h1
  exact ⟨by rw [mkArgs_len]; decide, rlessD_ex l nm hr⟩
/-- The contract of glacisref6.Names. -/
def rnamesC : Con := conN [(.v, TreeT), (.v, .int .i64)] fun (t, i, _) => if fitT t then some ⟨.val ⟨.slice EntT, namesT t i⟩, []⟩ else none
theorem rnamesC_eq {t : Ty.den (TreeT)} {i : Int} : rnamesC [.val ⟨TreeT, t⟩, .val ⟨.int .i64, i⟩] = if fitT t then some ⟨.val ⟨.slice EntT, namesT t i⟩, []⟩ else none := conN_mk (ks := [(.v, TreeT), (.v, .int .i64)]) (t, i, ())
def Γrnames : Cons := cons [(62, rtakeDC)]
theorem rnames_ex (t : Ty.den (TreeT)) (i : Int) (hr : fitT t) : Ex tab Γrnames (Try.f38.body.getD .skip) (EndsF tab Try.f38.results.toList [.val ⟨TreeT, t⟩, .val ⟨.int .i64, i⟩] ⟨.val ⟨.slice EntT, namesT t i⟩, []⟩) (ini [.val ⟨TreeT, t⟩, .val ⟨.int .i64, i⟩]) := by
  have g_rtakeD : Γrnames 62 = some rtakeDC := rfl
  simp only [Try.f38, Option.getD_some]
  simp (implicitDefEqProofs := false) (decide := true) (maxSteps := 4000000) [ini, g_rtakeD, rtakeDC_eq]
  have hb := fit_body hr i
  refine br_dec (fun h => ?_) fun h1 hl => br_dec (fun h => ?_) fun h2 => ?_
  · rw [namesT, if_pos (.inl h)]
  · rw [namesT, if_pos (.inr (.inl h))]
  have w1 : IntKind.i64.wrap (i - 1) = i - 1 := i64_in _ (by have : t.length ≤ 1000 := hr.1; omega)
  rw [w1]
  have hg : t[(i - 1).toNat]?.getD ((0, 0, no, ()) : Node) = nodeT t i := by unfold nodeT; rw [List.getD_eq_getElem?_getD]; rfl
  rw [show t[(i - 1).toNat]?.getD ((0, 0, { data := #[] }, ()) : Node) = nodeT t i from hg]
  refine ⟨⟨by omega, by omega⟩, br_intro (fun h => ?_) fun h3 => ⟨⟨by omega, by omega⟩, hb, ?_⟩⟩
  · rw [namesT, if_pos (.inr (.inr (by unfold kindT; simpa using h)))]
  · rw [namesT, if_neg (by
      rintro (h | h | h)
      · exact h1 h
      · exact h2 h
      · apply h; unfold kindT; simpa using h3)]
    rfl
theorem rnames_ok : ConOK Try.prog 38 rnamesC := by
  refine con_ok tab_ok (Γ := Γrnames) (consOK_cons rtakeD_ok consOK_nil) (by kernel_rfl) Try.func38 (by kernel_rfl) ?_
  intro args out h
  obtain ⟨x, e, h1⟩ := conN_inv h
  clear h
  obtain ⟨t, i, x0⟩ := x
  subst e
  replace h1 : (if fitT t then some ⟨.val ⟨.slice EntT, namesT t i⟩, []⟩ else none) = some out := h1
  split at h1
  case isFalse => cases h1
  rename_i hr
  injection h1 with h1
  subst h1
  exact ⟨by rw [mkArgs_len]; decide, rnames_ex t i hr⟩
/-- The contract of glacisref6.NewTree. -/
def rnewTC : Con := conN [] fun _ => some ⟨.val ⟨TreeT, newT⟩, []⟩
theorem rnewTC_eq  : rnewTC [] = some ⟨.val ⟨TreeT, newT⟩, []⟩ := conN_mk (ks := []) (())
def ΓrnewT : Cons := cons []
theorem rnewT_ex  : Ex tab ΓrnewT (Try.f27.body.getD .skip) (EndsF tab Try.f27.results.toList [] ⟨.val ⟨TreeT, newT⟩, []⟩) (ini []) := by
  simp only [Try.f27, Option.getD_some]
  simp (implicitDefEqProofs := false) (decide := true) (maxSteps := 4000000) [ini]
theorem rnewT_ok : ConOK Try.prog 27 rnewTC := by
  refine con_ok tab_ok (Γ := ΓrnewT) consOK_nil (by kernel_rfl) Try.func27 (by kernel_rfl) ?_
  intro args out h
  obtain ⟨x, e, h1⟩ := conN_inv h
  clear h
  subst e
  replace h1 : (some ⟨.val ⟨TreeT, newT⟩, []⟩) = some out := h1
  injection h1 with h1
  subst h1
  exact ⟨by rw [mkArgs_len]; decide, rnewT_ex⟩
/-- The contract of glacisref6.with. -/
def rset6C : Con := conN [(.v, TreeT), (.v, .int .i64), (.v, NodeT)] fun (t, i, n, _) => if fitT t ∧ 1 ≤ i ∧ i ≤ (t.length : Int) then some ⟨.val ⟨TreeT, setT t i n⟩, []⟩ else none
theorem rset6C_eq {t : Ty.den (TreeT)} {i : Int} {n : Ty.den (NodeT)} : rset6C [.val ⟨TreeT, t⟩, .val ⟨.int .i64, i⟩, .val ⟨NodeT, n⟩] = if fitT t ∧ 1 ≤ i ∧ i ≤ (t.length : Int) then some ⟨.val ⟨TreeT, setT t i n⟩, []⟩ else none := conN_mk (ks := [(.v, TreeT), (.v, .int .i64), (.v, NodeT)]) (t, i, n, ())
def Γrset6 : Cons := cons []
theorem rset6_ex (t : Ty.den (TreeT)) (i : Int) (n : Ty.den (NodeT)) (hr : fitT t ∧ 1 ≤ i ∧ i ≤ (t.length : Int)) : Ex tab Γrset6 (Try.f48.body.getD .skip) (EndsF tab Try.f48.results.toList [.val ⟨TreeT, t⟩, .val ⟨.int .i64, i⟩, .val ⟨NodeT, n⟩] ⟨.val ⟨TreeT, setT t i n⟩, []⟩) (ini [.val ⟨TreeT, t⟩, .val ⟨.int .i64, i⟩, .val ⟨NodeT, n⟩]) := by
  simp only [Try.f48, Option.getD_some]
  simp (implicitDefEqProofs := false) (decide := true) (maxSteps := 4000000) [ini]
  obtain ⟨⟨h1, h2⟩, h3, h4⟩ := hr
  have w1 : IntKind.i64.wrap (i - 1) = i - 1 := i64_in _ (by omega)
  rw [w1]
  exact ⟨by omega, ⟨by omega, by omega⟩, by omega, rfl⟩
theorem rset6_ok : ConOK Try.prog 48 rset6C := by
  refine con_ok tab_ok (Γ := Γrset6) consOK_nil (by kernel_rfl) Try.func48 (by kernel_rfl) ?_
  intro args out h
  obtain ⟨x, e, h1⟩ := conN_inv h
  clear h
  obtain ⟨t, i, n, x0⟩ := x
  subst e
  replace h1 : (if fitT t ∧ 1 ≤ i ∧ i ≤ (t.length : Int) then some ⟨.val ⟨TreeT, setT t i n⟩, []⟩ else none) = some out := h1
  split at h1
  case isFalse => cases h1
  rename_i hr
  injection h1 with h1
  subst h1
  exact ⟨by rw [mkArgs_len]; decide, rset6_ex t i n hr⟩
end Go.Proofs.Ytahefjfkfmoplaa
