/- The reference's looks at bodies, walked. -/
import Derived.Test.YthhjlbpmpffapaaGreatDoorRef6e
set_option maxRecDepth 100000
set_option maxHeartbeats 1000000
set_option linter.unusedSimpArgs false
set_option linter.unusedVariables false
set_option pp.deepTerms.threshold 30
namespace Go.Proofs.YthhjlbpmpffapaaGreatDoor
open Go.Tm Go.IntWalk
abbrev StatT : Ty := .prod (.int .i64) (.prod (.int .i64) (.prod (.int .i64) (.prod (.int .i64) (.prod (.int .i64) .unit))))
def readT (t : List Node) (p : ByteArray) (own : Bool) : ByteArray × Int := if (fileT t p own).2 ≠ 0 then (no, (fileT t p own).2) else (bodyT t (fileT t p own).1, 0)
def statT (t : List Node) (p : ByteArray) (own : Bool) : (Int × Int × Int × Int × Int × Unit) × Int :=
  if (findT t p own).2 ≠ 0 then ((0, 0, 0, 0, 0, ()), (findT t p own).2) else
  (((findT t p own).1, kindT t (findT t p own).1, (nodeT t (findT t p own).1).2.1, linksT t (findT t p own).1, ((bodyT t (findT t p own).1).size : Int), ()), 0)
def listT (t : List Node) (p : ByteArray) (own : Bool) : List Ent × Int :=
  if (findT t p own).2 ≠ 0 then ([], (findT t p own).2) else if kindT t (findT t p own).1 ≠ 2 then ([], 5) else (namesT t (findT t p own).1, 0)
/-- The contract of glacisref6.Read. -/
def rreadTC : Con := conN [(.v, TreeT), (.v, .str), (.v, .bool)] fun (t, p, own, _) => if fitT t ∧ p.size ≤ 4000000000 then some ⟨.tup [⟨.str, (readT t p own).1⟩, ⟨.int .i64, (readT t p own).2⟩], []⟩ else none
theorem rreadTC_eq {t : Ty.den (TreeT)} {p : ByteArray} {own : Bool} : rreadTC [.val ⟨TreeT, t⟩, .val ⟨.str, p⟩, .val ⟨.bool, own⟩] = if fitT t ∧ p.size ≤ 4000000000 then some ⟨.tup [⟨.str, (readT t p own).1⟩, ⟨.int .i64, (readT t p own).2⟩], []⟩ else none := conN_mk (ks := [(.v, TreeT), (.v, .str), (.v, .bool)]) (t, p, own, ())
def ΓrreadT : Cons := cons [(31, rfileTC)]
theorem rreadT_ex (t : Ty.den (TreeT)) (p : ByteArray) (own : Bool) (hr : fitT t ∧ p.size ≤ 4000000000) : Ex tab ΓrreadT (Tryz.f12.body.getD .skip) (EndsF tab Tryz.f12.results.toList [.val ⟨TreeT, t⟩, .val ⟨.str, p⟩, .val ⟨.bool, own⟩] ⟨.tup [⟨.str, (readT t p own).1⟩, ⟨.int .i64, (readT t p own).2⟩], []⟩) (ini [.val ⟨TreeT, t⟩, .val ⟨.str, p⟩, .val ⟨.bool, own⟩]) := by
  have g_rfileT : ΓrreadT 31 = some rfileTC := rfl
  simp only [Tryz.f12, Option.getD_some]
  simp (implicitDefEqProofs := false) (decide := true) (maxSteps := 4000000) [ini, g_rfileT, rfileTC_eq]
  obtain ⟨h1, h2⟩ := hr
  have ht : t.length ≤ 1000 := h1.1
  refine ⟨⟨h1, h2⟩, br_intro (fun h => ?_) fun h => ?_⟩
  · rw [readT, if_pos (by simpa using h)]; exact ⟨rfl, rfl⟩
  have h0 : (fileT t p own).2 = 0 := by simpa using h
  have hf := fileT_range h0
  have w1 : IntKind.i64.wrap ((fileT t p own).1 - 1) = (fileT t p own).1 - 1 := i64_in _ (by omega)
  rw [w1, kind_at, readT, if_neg (by rw [h0]; decide)]
  exact ⟨⟨by omega, by omega⟩, rfl, rfl⟩
theorem rreadT_ok : ConOK Tryz.prog 12 rreadTC := by
  refine con_ok tab_ok (Γ := ΓrreadT) (consOK_cons rfileT_ok consOK_nil) (by kernel_rfl) Tryz.func12 (by kernel_rfl) ?_
  intro args out h
  obtain ⟨x, e, h1⟩ := conN_inv h
  clear h
  obtain ⟨t, p, own, x0⟩ := x
  subst e
  replace h1 : (if fitT t ∧ p.size ≤ 4000000000 then some ⟨.tup [⟨.str, (readT t p own).1⟩, ⟨.int .i64, (readT t p own).2⟩], []⟩ else none) = some out := h1
  split at h1
  case isFalse => cases h1
  rename_i hr
  injection h1 with h1
  subst h1
  exact ⟨by rw [mkArgs_len]; decide, rreadT_ex t p own hr⟩
/-- The contract of glacisref6.Stat. -/
def rstatTC : Con := conN [(.v, TreeT), (.v, .str), (.v, .bool)] fun (t, p, own, _) => if fitT t ∧ p.size ≤ 4000000000 then some ⟨.tup [⟨StatT, (statT t p own).1⟩, ⟨.int .i64, (statT t p own).2⟩], []⟩ else none
theorem rstatTC_eq {t : Ty.den (TreeT)} {p : ByteArray} {own : Bool} : rstatTC [.val ⟨TreeT, t⟩, .val ⟨.str, p⟩, .val ⟨.bool, own⟩] = if fitT t ∧ p.size ≤ 4000000000 then some ⟨.tup [⟨StatT, (statT t p own).1⟩, ⟨.int .i64, (statT t p own).2⟩], []⟩ else none := conN_mk (ks := [(.v, TreeT), (.v, .str), (.v, .bool)]) (t, p, own, ())
def ΓrstatT : Cons := cons [(26, rfindTC), (38, rlinksC)]
theorem rstatT_ex (t : Ty.den (TreeT)) (p : ByteArray) (own : Bool) (hr : fitT t ∧ p.size ≤ 4000000000) : Ex tab ΓrstatT (Tryz.f21.body.getD .skip) (EndsF tab Tryz.f21.results.toList [.val ⟨TreeT, t⟩, .val ⟨.str, p⟩, .val ⟨.bool, own⟩] ⟨.tup [⟨StatT, (statT t p own).1⟩, ⟨.int .i64, (statT t p own).2⟩], []⟩) (ini [.val ⟨TreeT, t⟩, .val ⟨.str, p⟩, .val ⟨.bool, own⟩]) := by
  have g_rfindT : ΓrstatT 26 = some rfindTC := rfl
  have g_rlinks : ΓrstatT 38 = some rlinksC := rfl
  simp only [Tryz.f21, Option.getD_some]
  simp (implicitDefEqProofs := false) (decide := true) (maxSteps := 4000000) [ini, g_rfindT, rfindTC_eq, g_rlinks, rlinksC_eq]
  obtain ⟨h1, h2⟩ := hr
  have ht : t.length ≤ 1000 := h1.1
  refine ⟨⟨h1, h2⟩, br_intro (fun h => ?_) fun h => ?_⟩
  · rw [statT, if_pos (by simpa using h)]; exact ⟨rfl, rfl⟩
  have h0 : (findT t p own).2 = 0 := by simpa using h
  have hf := findT_range h0
  have w1 : IntKind.i64.wrap ((findT t p own).1 - 1) = (findT t p own).1 - 1 := i64_in _ (by omega)
  rw [w1, kind_at, statT, if_neg (by rw [h0]; decide)]
  exact ⟨⟨by omega, by omega⟩, h1, rfl, rfl⟩
theorem rstatT_ok : ConOK Tryz.prog 21 rstatTC := by
  refine con_ok tab_ok (Γ := ΓrstatT) (consOK_cons rfindT_ok (consOK_cons rlinks_ok consOK_nil)) (by kernel_rfl) Tryz.func21 (by kernel_rfl) ?_
  intro args out h
  obtain ⟨x, e, h1⟩ := conN_inv h
  clear h
  obtain ⟨t, p, own, x0⟩ := x
  subst e
  replace h1 : (if fitT t ∧ p.size ≤ 4000000000 then some ⟨.tup [⟨StatT, (statT t p own).1⟩, ⟨.int .i64, (statT t p own).2⟩], []⟩ else none) = some out := h1
  split at h1
  case isFalse => cases h1
  rename_i hr
  injection h1 with h1
  subst h1
  exact ⟨by rw [mkArgs_len]; decide, rstatT_ex t p own hr⟩
/-- The contract of glacisref6.List. -/
def rlistTC : Con := conN [(.v, TreeT), (.v, .str), (.v, .bool)] fun (t, p, own, _) => if fitT t ∧ p.size ≤ 4000000000 then some ⟨.tup [⟨.slice EntT, (listT t p own).1⟩, ⟨.int .i64, (listT t p own).2⟩], []⟩ else none
theorem rlistTC_eq {t : Ty.den (TreeT)} {p : ByteArray} {own : Bool} : rlistTC [.val ⟨TreeT, t⟩, .val ⟨.str, p⟩, .val ⟨.bool, own⟩] = if fitT t ∧ p.size ≤ 4000000000 then some ⟨.tup [⟨.slice EntT, (listT t p own).1⟩, ⟨.int .i64, (listT t p own).2⟩], []⟩ else none := conN_mk (ks := [(.v, TreeT), (.v, .str), (.v, .bool)]) (t, p, own, ())
def ΓrlistT : Cons := cons [(26, rfindTC), (40, rnamesC)]
theorem rlistT_ex (t : Ty.den (TreeT)) (p : ByteArray) (own : Bool) (hr : fitT t ∧ p.size ≤ 4000000000) : Ex tab ΓrlistT (Tryz.f23.body.getD .skip) (EndsF tab Tryz.f23.results.toList [.val ⟨TreeT, t⟩, .val ⟨.str, p⟩, .val ⟨.bool, own⟩] ⟨.tup [⟨.slice EntT, (listT t p own).1⟩, ⟨.int .i64, (listT t p own).2⟩], []⟩) (ini [.val ⟨TreeT, t⟩, .val ⟨.str, p⟩, .val ⟨.bool, own⟩]) := by
  have g_rfindT : ΓrlistT 26 = some rfindTC := rfl
  have g_rnames : ΓrlistT 40 = some rnamesC := rfl
  simp only [Tryz.f23, Option.getD_some]
  simp (implicitDefEqProofs := false) (decide := true) (maxSteps := 4000000) [ini, g_rfindT, rfindTC_eq, g_rnames, rnamesC_eq]
  obtain ⟨h1, h2⟩ := hr
  have ht : t.length ≤ 1000 := h1.1
  refine ⟨⟨h1, h2⟩, br_intro (fun h => ?_) fun h => ?_⟩
  · rw [listT, if_pos (by simpa using h)]; exact ⟨rfl, rfl⟩
  have h0 : (findT t p own).2 = 0 := by simpa using h
  have hf := findT_range h0
  have w1 : IntKind.i64.wrap ((findT t p own).1 - 1) = (findT t p own).1 - 1 := i64_in _ (by omega)
  rw [w1, kind_at, listT, if_neg (by rw [h0]; decide)]
  refine ⟨⟨by omega, by omega⟩, br_intro (fun h3 => ?_) fun h3 => ?_⟩
  · rw [if_pos (fun e => by rw [show (nodeT t (findT t p own).1).1 = 2 from e] at h3; cases h3)]; exact ⟨rfl, rfl⟩
  · rw [if_neg (by rw [kindT]; simpa using h3)]; exact ⟨h1, rfl, rfl⟩
theorem rlistT_ok : ConOK Tryz.prog 23 rlistTC := by
  refine con_ok tab_ok (Γ := ΓrlistT) (consOK_cons rfindT_ok (consOK_cons rnames_ok consOK_nil)) (by kernel_rfl) Tryz.func23 (by kernel_rfl) ?_
  intro args out h
  obtain ⟨x, e, h1⟩ := conN_inv h
  clear h
  obtain ⟨t, p, own, x0⟩ := x
  subst e
  replace h1 : (if fitT t ∧ p.size ≤ 4000000000 then some ⟨.tup [⟨.slice EntT, (listT t p own).1⟩, ⟨.int .i64, (listT t p own).2⟩], []⟩ else none) = some out := h1
  split at h1
  case isFalse => cases h1
  rename_i hr
  injection h1 with h1
  subst h1
  exact ⟨by rw [mkArgs_len]; decide, rlistT_ex t p own hr⟩
end Go.Proofs.YthhjlbpmpffapaaGreatDoor
