/- diff: what is the same on both sides; what is gone. -/
import Derived.Test.YtahefjfkfmoplaaPTree
set_option maxRecDepth 10000
set_option maxHeartbeats 1000000
set_option linter.unusedSimpArgs false
set_option linter.unusedVariables false
set_option pp.deepTerms.threshold 12
namespace Go.Proofs.Ytahefjfkfmoplaa
open Go.Tm Go.IntWalk

abbrev EnT : Ty := .prod (.int .i64) (.prod .str (.prod (.int .i64) .unit))
abbrev En : Type := Int × ByteArray × Int × Unit
abbrev SdT : Ty := .prod TreeT .unit
abbrev BhT : Ty := .prod SdT (.prod SdT .unit)
abbrev Bh : Type := (List Node × Unit) × (List Node × Unit) × Unit
def kindD (t : List Node) (n : Int) : Int := if n < 1 ∨ (t.length : Int) < n then 0 else kindT t n
def sameD (b : Bh) (n : Int) : Bool := decide (kindD b.1.1 n ≠ 0) && decide (kindD b.1.1 n = kindD b.2.1.1 n)
theorem kindD_in {t : List Node} {n : Int} (h1 : ¬ n < 1) (h2 : ¬ (t.length : Int) < n) : kindD t n = (t[(n - 1).toNat]?.getD dfltN).1 := by
  rw [kindD, if_neg (by omega), kindT, nodeT, List.getD_eq_getElem?_getD]
theorem idx_hit {α : Type} {p : α → Bool} {l : List α} {i : Nat} (h : i < l.length) (hp : p l[i] = true) (hk : ∀ k, (hk : k < i) → p (l[k]'(by omega)) = false) : l.findIdx? p = some i :=
  List.findIdx?_eq_some_iff_getElem.2 ⟨h, hp, fun k hk2 => by rw [hk k hk2]; decide⟩
theorem idx_none {α : Type} {p : α → Bool} {l : List α} (hk : ∀ k, (hk : k < l.length) → p l[k] = false) : l.findIdx? p = none :=
  List.findIdx?_eq_none_iff.2 fun x hx => by
    obtain ⟨k, h, rfl⟩ := List.getElem_of_mem hx
    exact hk k h
/-- The contract of (diff.side).kind. -/
def dkindC : Con := conN [(.v, .prod (.slice (.prod (.int .i64) (.prod (.int .i64) (.prod .str .unit)))) .unit), (.v, .int .i64)] fun (b, n, _) => some ⟨.val ⟨.int .i64, kindD b.1 n⟩, []⟩
theorem dkindC_eq {b : Ty.den (.prod (.slice (.prod (.int .i64) (.prod (.int .i64) (.prod .str .unit)))) .unit)} {n : Int} : dkindC [.val ⟨.prod (.slice (.prod (.int .i64) (.prod (.int .i64) (.prod .str .unit)))) .unit, b⟩, .val ⟨.int .i64, n⟩] = some ⟨.val ⟨.int .i64, kindD b.1 n⟩, []⟩ := conN_mk (ks := [(.v, .prod (.slice (.prod (.int .i64) (.prod (.int .i64) (.prod .str .unit)))) .unit), (.v, .int .i64)]) (b, n, ())
def Γdkind : Cons := cons []
theorem dkind_ex (b : Ty.den (.prod (.slice (.prod (.int .i64) (.prod (.int .i64) (.prod .str .unit)))) .unit)) (n : Int) : Ex tab Γdkind (Try.f64.body.getD .skip) (EndsF tab Try.f64.results.toList [.val ⟨.prod (.slice (.prod (.int .i64) (.prod (.int .i64) (.prod .str .unit)))) .unit, b⟩, .val ⟨.int .i64, n⟩] ⟨.val ⟨.int .i64, kindD b.1 n⟩, []⟩) (ini [.val ⟨.prod (.slice (.prod (.int .i64) (.prod (.int .i64) (.prod .str .unit)))) .unit, b⟩, .val ⟨.int .i64, n⟩]) := by
  simp only [Try.f64, Option.getD_some]
  simp (implicitDefEqProofs := false) (decide := true) (maxSteps := 4000000) [ini]
  refine br_dec (fun h => ?_) fun h1 hl => br_dec (fun h => ?_) fun h2 => ?_
  · rw [kindD, if_pos (.inl h)]
  · rw [kindD, if_pos (.inr h)]
  · have hl : List.length b.1 ≤ 9223372036854775807 := hl
    have w : IntKind.i64.wrap (n - 1) = n - 1 := i64_in _ (by omega)
    rw [w, kindD_in h1 h2]
    exact ⟨⟨by omega, by omega⟩, rfl⟩
theorem dkind_ok : ConOK Try.prog 64 dkindC := by
  refine con_ok tab_ok (Γ := Γdkind) consOK_nil (by kernel_rfl) Try.func64 (by kernel_rfl) ?_
  intro args out h
  obtain ⟨x, e, h1⟩ := conN_inv h
  clear h
  obtain ⟨b, n, x0⟩ := x
  subst e
  replace h1 : (some ⟨.val ⟨.int .i64, kindD b.1 n⟩, []⟩) = some out := h1
  injection h1 with h1
  subst h1
  exact ⟨by rw [mkArgs_len]; decide, dkind_ex b n⟩
/-- The contract of (diff.both).same. -/
def dsameC : Con := conN [(.v, .prod (.prod (.slice (.prod (.int .i64) (.prod (.int .i64) (.prod .str .unit)))) .unit) (.prod (.prod (.slice (.prod (.int .i64) (.prod (.int .i64) (.prod .str .unit)))) .unit) .unit)), (.v, .int .i64)] fun (b, n, _) => some ⟨.val ⟨.bool, sameD b n⟩, []⟩
theorem dsameC_eq {b : Ty.den (.prod (.prod (.slice (.prod (.int .i64) (.prod (.int .i64) (.prod .str .unit)))) .unit) (.prod (.prod (.slice (.prod (.int .i64) (.prod (.int .i64) (.prod .str .unit)))) .unit) .unit))} {n : Int} : dsameC [.val ⟨.prod (.prod (.slice (.prod (.int .i64) (.prod (.int .i64) (.prod .str .unit)))) .unit) (.prod (.prod (.slice (.prod (.int .i64) (.prod (.int .i64) (.prod .str .unit)))) .unit) .unit), b⟩, .val ⟨.int .i64, n⟩] = some ⟨.val ⟨.bool, sameD b n⟩, []⟩ := conN_mk (ks := [(.v, .prod (.prod (.slice (.prod (.int .i64) (.prod (.int .i64) (.prod .str .unit)))) .unit) (.prod (.prod (.slice (.prod (.int .i64) (.prod (.int .i64) (.prod .str .unit)))) .unit) .unit)), (.v, .int .i64)]) (b, n, ())
def Γdsame : Cons := cons [(64, dkindC)]
theorem dsame_ex (b : Ty.den (.prod (.prod (.slice (.prod (.int .i64) (.prod (.int .i64) (.prod .str .unit)))) .unit) (.prod (.prod (.slice (.prod (.int .i64) (.prod (.int .i64) (.prod .str .unit)))) .unit) .unit))) (n : Int) : Ex tab Γdsame (Try.f41.body.getD .skip) (EndsF tab Try.f41.results.toList [.val ⟨.prod (.prod (.slice (.prod (.int .i64) (.prod (.int .i64) (.prod .str .unit)))) .unit) (.prod (.prod (.slice (.prod (.int .i64) (.prod (.int .i64) (.prod .str .unit)))) .unit) .unit), b⟩, .val ⟨.int .i64, n⟩] ⟨.val ⟨.bool, sameD b n⟩, []⟩) (ini [.val ⟨.prod (.prod (.slice (.prod (.int .i64) (.prod (.int .i64) (.prod .str .unit)))) .unit) (.prod (.prod (.slice (.prod (.int .i64) (.prod (.int .i64) (.prod .str .unit)))) .unit) .unit), b⟩, .val ⟨.int .i64, n⟩]) := by
  have g_dkind : Γdsame 64 = some dkindC := rfl
  simp only [Try.f41, Option.getD_some]
  simp (implicitDefEqProofs := false) (decide := true) (maxSteps := 4000000) [ini, g_dkind, dkindC_eq]
  refine br_intro (fun h => ?_) fun h => ?_
  · have h : kindD b.1.1 n ≠ 0 := by simpa using h
    rw [sameD, decide_eq_true h, Bool.true_and]
    rfl
  · have h : kindD b.1.1 n = 0 := by simpa using h
    rw [sameD, decide_eq_false (by rw [h]; simp), Bool.false_and]
theorem dsame_ok : ConOK Try.prog 41 dsameC := by
  refine con_ok tab_ok (Γ := Γdsame) (consOK_cons dkind_ok consOK_nil) (by kernel_rfl) Try.func41 (by kernel_rfl) ?_
  intro args out h
  obtain ⟨x, e, h1⟩ := conN_inv h
  clear h
  obtain ⟨b, n, x0⟩ := x
  subst e
  replace h1 : (some ⟨.val ⟨.bool, sameD b n⟩, []⟩) = some out := h1
  injection h1 with h1
  subst h1
  exact ⟨by rw [mkArgs_len]; decide, dsame_ex b n⟩
def indexD (l : List En) (e : En) : Int := match l.findIdx? fun x => same EnT e x with | some i => (i : Int) | none => -1
/-- The contract of slices.Index[[]diff.Entry,diff.Entry]. -/
def dindexC : Con := conN [(.v, .slice (.prod (.int .i64) (.prod .str (.prod (.int .i64) .unit)))), (.v, .prod (.int .i64) (.prod .str (.prod (.int .i64) .unit)))] fun (l, e, _) => some ⟨.val ⟨.int .i64, indexD l e⟩, []⟩
theorem dindexC_eq {l : List (Ty.den (.prod (.int .i64) (.prod .str (.prod (.int .i64) .unit))))} {e : Ty.den (.prod (.int .i64) (.prod .str (.prod (.int .i64) .unit)))} : dindexC [.val ⟨.slice (.prod (.int .i64) (.prod .str (.prod (.int .i64) .unit))), l⟩, .val ⟨.prod (.int .i64) (.prod .str (.prod (.int .i64) .unit)), e⟩] = some ⟨.val ⟨.int .i64, indexD l e⟩, []⟩ := conN_mk (ks := [(.v, .slice (.prod (.int .i64) (.prod .str (.prod (.int .i64) .unit)))), (.v, .prod (.int .i64) (.prod .str (.prod (.int .i64) .unit)))]) (l, e, ())
def Γdindex : Cons := cons []
theorem dindex_ex (l : List (Ty.den (.prod (.int .i64) (.prod .str (.prod (.int .i64) .unit))))) (e : Ty.den (.prod (.int .i64) (.prod .str (.prod (.int .i64) .unit)))) : Ex tab Γdindex (Try.f65.body.getD .skip) (EndsF tab Try.f65.results.toList [.val ⟨.slice (.prod (.int .i64) (.prod .str (.prod (.int .i64) .unit))), l⟩, .val ⟨.prod (.int .i64) (.prod .str (.prod (.int .i64) .unit)), e⟩] ⟨.val ⟨.int .i64, indexD l e⟩, []⟩) (ini [.val ⟨.slice (.prod (.int .i64) (.prod .str (.prod (.int .i64) .unit))), l⟩, .val ⟨.prod (.int .i64) (.prod .str (.prod (.int .i64) .unit)), e⟩]) := by
  simp only [Try.f65, Option.getD_some]
  simp (implicitDefEqProofs := false) (decide := true) (maxSteps := 4000000) [ini]
  intro m hl
  have hl : l.length ≤ 9223372036854775807 := hl
  refine ex_loopU (σ := Nat) [4, 5, 8, 9, 10, 11, 12, 13, 14, 15, 16, 17, 18] (fun a => [(8, .val (.int .i64) (a : Int))]) (fun a => a ≤ l.length ∧ ∀ k, (hk : k < l.length) → k < a → same EnT e l[k] = false) (fun a => l.length - a) 0 ⟨by simp, fun k _ h => absurd h (Nat.not_lt_zero _)⟩ (hc rfl hn) ?_
  rintro j i ⟨hi, hk⟩
  simp (implicitDefEqProofs := false) (decide := true) [ini]
  refine br_dec (fun hlt => ⟨hlt, br_intro (fun h => ?_) fun h => ⟨i + 1, ⟨hlt, fun k hk2 hk3 => ?_⟩, by omega, w_nat rfl (by omega)⟩⟩) fun hge => ?_
  · rw [List.getElem?_eq_getElem hlt] at h
    have h : same EnT e l[i] = true := h
    rw [indexD, idx_hit (p := fun x => same EnT e x) hlt h (fun k hk2 => hk k (by omega) hk2)]
  · rw [List.getElem?_eq_getElem hlt] at h
    rcases Nat.lt_or_ge k i with h3 | h3
    · exact hk k hk2 h3
    · obtain rfl : k = i := by omega
      exact h
  · rw [indexD, idx_none (p := fun x => same EnT e x) (fun k hk2 => hk k hk2 (by omega))]
theorem dindex_ok : ConOK Try.prog 65 dindexC := by
  refine con_ok tab_ok (Γ := Γdindex) consOK_nil (by kernel_rfl) Try.func65 (by kernel_rfl) ?_
  intro args out h
  obtain ⟨x, e, h1⟩ := conN_inv h
  clear h
  obtain ⟨l, e, x0⟩ := x
  subst e
  replace h1 : (some ⟨.val ⟨.int .i64, indexD l e⟩, []⟩) = some out := h1
  injection h1 with h1
  subst h1
  exact ⟨by rw [mkArgs_len]; decide, dindex_ex l e⟩
/-- The contract of slices.Contains[[]diff.Entry,diff.Entry]. -/
def dcontainsC : Con := conN [(.v, .slice (.prod (.int .i64) (.prod .str (.prod (.int .i64) .unit)))), (.v, .prod (.int .i64) (.prod .str (.prod (.int .i64) .unit)))] fun (l, e, _) => some ⟨.val ⟨.bool, l.any fun x => same EnT e x⟩, []⟩
theorem dcontainsC_eq {l : List (Ty.den (.prod (.int .i64) (.prod .str (.prod (.int .i64) .unit))))} {e : Ty.den (.prod (.int .i64) (.prod .str (.prod (.int .i64) .unit)))} : dcontainsC [.val ⟨.slice (.prod (.int .i64) (.prod .str (.prod (.int .i64) .unit))), l⟩, .val ⟨.prod (.int .i64) (.prod .str (.prod (.int .i64) .unit)), e⟩] = some ⟨.val ⟨.bool, l.any fun x => same EnT e x⟩, []⟩ := conN_mk (ks := [(.v, .slice (.prod (.int .i64) (.prod .str (.prod (.int .i64) .unit)))), (.v, .prod (.int .i64) (.prod .str (.prod (.int .i64) .unit)))]) (l, e, ())
def Γdcontains : Cons := cons [(65, dindexC)]
theorem dcontains_ex (l : List (Ty.den (.prod (.int .i64) (.prod .str (.prod (.int .i64) .unit))))) (e : Ty.den (.prod (.int .i64) (.prod .str (.prod (.int .i64) .unit)))) : Ex tab Γdcontains (Try.f42.body.getD .skip) (EndsF tab Try.f42.results.toList [.val ⟨.slice (.prod (.int .i64) (.prod .str (.prod (.int .i64) .unit))), l⟩, .val ⟨.prod (.int .i64) (.prod .str (.prod (.int .i64) .unit)), e⟩] ⟨.val ⟨.bool, l.any fun x => same EnT e x⟩, []⟩) (ini [.val ⟨.slice (.prod (.int .i64) (.prod .str (.prod (.int .i64) .unit))), l⟩, .val ⟨.prod (.int .i64) (.prod .str (.prod (.int .i64) .unit)), e⟩]) := by
  have g_dindex : Γdcontains 65 = some dindexC := rfl
  simp only [Try.f42, Option.getD_some]
  simp (implicitDefEqProofs := false) (decide := true) (maxSteps := 4000000) [ini, g_dindex, dindexC_eq]
  unfold indexD
  cases h : l.findIdx? fun x => same EnT e x with
  | none =>
    rw [List.findIdx?_eq_none_iff] at h
    rw [show (l.any fun x => same EnT e x) = false from List.any_eq_false.2 fun x hx => by rw [h x hx]; decide]
    rfl
  | some i =>
    rw [List.findIdx?_eq_some_iff_getElem] at h
    obtain ⟨h1, h2, _⟩ := h
    rw [show (l.any fun x => same EnT e x) = true from List.any_eq_true.2 ⟨l[i], List.getElem_mem h1, h2⟩]
    exact decide_eq_true (by simp only; omega)
theorem dcontains_ok : ConOK Try.prog 42 dcontainsC := by
  refine con_ok tab_ok (Γ := Γdcontains) (consOK_cons dindex_ok consOK_nil) (by kernel_rfl) Try.func42 (by kernel_rfl) ?_
  intro args out h
  obtain ⟨x, e, h1⟩ := conN_inv h
  clear h
  obtain ⟨l, e, x0⟩ := x
  subst e
  replace h1 : (some ⟨.val ⟨.bool, l.any fun x => same EnT e x⟩, []⟩) = some out := h1
  injection h1 with h1
  subst h1
  exact ⟨by rw [mkArgs_len]; decide, dcontains_ex l e⟩
/-- What is not gone. -/
def keptD (b : Bh) (l : List En) (e : En) : Bool := sameD b e.1 && sameD b e.2.2.1 && (l.any fun x => same EnT e x)
/-- The contract of diff.Gone$1. -/
def dcloC : Con := conN [(.v, .prod (.int .i64) (.prod .str (.prod (.int .i64) .unit))), (.p, .prod (.prod (.slice (.prod (.int .i64) (.prod (.int .i64) (.prod .str .unit)))) .unit) (.prod (.prod (.slice (.prod (.int .i64) (.prod (.int .i64) (.prod .str .unit)))) .unit) .unit)), (.p, .slice (.prod (.int .i64) (.prod .str (.prod (.int .i64) .unit))))] fun (e, b, l, _) => some ⟨.val ⟨.bool, keptD b l e⟩, []⟩
theorem dcloC_eq {e : Ty.den (.prod (.int .i64) (.prod .str (.prod (.int .i64) .unit)))} {b : Ty.den (.prod (.prod (.slice (.prod (.int .i64) (.prod (.int .i64) (.prod .str .unit)))) .unit) (.prod (.prod (.slice (.prod (.int .i64) (.prod (.int .i64) (.prod .str .unit)))) .unit) .unit))} {l : List (Ty.den (.prod (.int .i64) (.prod .str (.prod (.int .i64) .unit))))} : dcloC [.val ⟨.prod (.int .i64) (.prod .str (.prod (.int .i64) .unit)), e⟩, .ptr ⟨.prod (.prod (.slice (.prod (.int .i64) (.prod (.int .i64) (.prod .str .unit)))) .unit) (.prod (.prod (.slice (.prod (.int .i64) (.prod (.int .i64) (.prod .str .unit)))) .unit) .unit), b⟩, .ptr ⟨.slice (.prod (.int .i64) (.prod .str (.prod (.int .i64) .unit))), l⟩] = some ⟨.val ⟨.bool, keptD b l e⟩, []⟩ := conN_mk (ks := [(.v, .prod (.int .i64) (.prod .str (.prod (.int .i64) .unit))), (.p, .prod (.prod (.slice (.prod (.int .i64) (.prod (.int .i64) (.prod .str .unit)))) .unit) (.prod (.prod (.slice (.prod (.int .i64) (.prod (.int .i64) (.prod .str .unit)))) .unit) .unit)), (.p, .slice (.prod (.int .i64) (.prod .str (.prod (.int .i64) .unit))))]) (e, b, l, ())
def Γdclo : Cons := cons [(41, dsameC), (42, dcontainsC)]
theorem dclo_ex (e : Ty.den (.prod (.int .i64) (.prod .str (.prod (.int .i64) .unit)))) (b : Ty.den (.prod (.prod (.slice (.prod (.int .i64) (.prod (.int .i64) (.prod .str .unit)))) .unit) (.prod (.prod (.slice (.prod (.int .i64) (.prod (.int .i64) (.prod .str .unit)))) .unit) .unit))) (l : List (Ty.den (.prod (.int .i64) (.prod .str (.prod (.int .i64) .unit))))) : Ex tab Γdclo (Try.f40.body.getD .skip) (EndsF tab Try.f40.results.toList [.val ⟨.prod (.int .i64) (.prod .str (.prod (.int .i64) .unit)), e⟩, .ptr ⟨.prod (.prod (.slice (.prod (.int .i64) (.prod (.int .i64) (.prod .str .unit)))) .unit) (.prod (.prod (.slice (.prod (.int .i64) (.prod (.int .i64) (.prod .str .unit)))) .unit) .unit), b⟩, .ptr ⟨.slice (.prod (.int .i64) (.prod .str (.prod (.int .i64) .unit))), l⟩] ⟨.val ⟨.bool, keptD b l e⟩, []⟩) (ini [.val ⟨.prod (.int .i64) (.prod .str (.prod (.int .i64) .unit)), e⟩, .ptr ⟨.prod (.prod (.slice (.prod (.int .i64) (.prod (.int .i64) (.prod .str .unit)))) .unit) (.prod (.prod (.slice (.prod (.int .i64) (.prod (.int .i64) (.prod .str .unit)))) .unit) .unit), b⟩, .ptr ⟨.slice (.prod (.int .i64) (.prod .str (.prod (.int .i64) .unit))), l⟩]) := by
  have g_dsame : Γdclo 41 = some dsameC := rfl
  have g_dcontains : Γdclo 42 = some dcontainsC := rfl
  simp only [Try.f40, Option.getD_some]
  simp (implicitDefEqProofs := false) (decide := true) (maxSteps := 4000000) [ini, g_dsame, dsameC_eq, g_dcontains, dcontainsC_eq]
  refine br_intro (fun h => br_intro (fun h2 => ?_) fun h2 => ?_) fun h => ?_
  · rw [keptD, h, h2]; rfl
  · rw [keptD, h, h2]; rfl
  · rw [keptD, h]; rfl
theorem dclo_ok : ConOK Try.prog 40 dcloC := by
  refine con_ok tab_ok (Γ := Γdclo) (consOK_cons dsame_ok (consOK_cons dcontains_ok consOK_nil)) (by kernel_rfl) Try.func40 (by kernel_rfl) ?_
  intro args out h
  obtain ⟨x, e, h1⟩ := conN_inv h
  clear h
  obtain ⟨e, b, l, x0⟩ := x
  subst e
  replace h1 : (some ⟨.val ⟨.bool, keptD b l e⟩, []⟩) = some out := h1
  injection h1 with h1
  subst h1
  exact ⟨by rw [mkArgs_len]; decide, dclo_ex e b l⟩
def firstD (p : En → Bool) (xs : List En) : Int := match xs.findIdx? p with | some i => (i : Int) | none => -1
/-- The contract of slices.IndexFunc[[]diff.Entry,diff.Entry]. -/
def dindexFC : Con := conF [(.v, .slice (.prod (.int .i64) (.prod .str (.prod (.int .i64) .unit)))), (.c 40 [.prod (.prod (.slice (.prod (.int .i64) (.prod (.int .i64) (.prod .str .unit)))) .unit) (.prod (.prod (.slice (.prod (.int .i64) (.prod (.int .i64) (.prod .str .unit)))) .unit) .unit), .slice (.prod (.int .i64) (.prod .str (.prod (.int .i64) .unit)))], .unit)] fun (xs, (q1, q2, _), _) => some ⟨.val ⟨.int .i64, firstD (keptD q1 q2) xs⟩, []⟩
theorem dindexFC_eq {xs : List (Ty.den (.prod (.int .i64) (.prod .str (.prod (.int .i64) .unit))))} {q1 : Ty.den (.prod (.prod (.slice (.prod (.int .i64) (.prod (.int .i64) (.prod .str .unit)))) .unit) (.prod (.prod (.slice (.prod (.int .i64) (.prod (.int .i64) (.prod .str .unit)))) .unit) .unit))} {q2 : List (Ty.den (.prod (.int .i64) (.prod .str (.prod (.int .i64) .unit))))} : dindexFC [.val ⟨.slice (.prod (.int .i64) (.prod .str (.prod (.int .i64) .unit))), xs⟩, .clo 40 [⟨.prod (.prod (.slice (.prod (.int .i64) (.prod (.int .i64) (.prod .str .unit)))) .unit) (.prod (.prod (.slice (.prod (.int .i64) (.prod (.int .i64) (.prod .str .unit)))) .unit) .unit), q1⟩, ⟨.slice (.prod (.int .i64) (.prod .str (.prod (.int .i64) .unit))), q2⟩]] = some ⟨.val ⟨.int .i64, firstD (keptD q1 q2) xs⟩, []⟩ := conF_mk (ks := [(.v, .slice (.prod (.int .i64) (.prod .str (.prod (.int .i64) .unit)))), (.c 40 [.prod (.prod (.slice (.prod (.int .i64) (.prod (.int .i64) (.prod .str .unit)))) .unit) (.prod (.prod (.slice (.prod (.int .i64) (.prod (.int .i64) (.prod .str .unit)))) .unit) .unit), .slice (.prod (.int .i64) (.prod .str (.prod (.int .i64) .unit)))], .unit)]) (xs, (q1, q2, ()), ())
def ΓdindexF : Cons := cons [(40, dcloC)]
theorem dindexF_ex (xs : List (Ty.den (.prod (.int .i64) (.prod .str (.prod (.int .i64) .unit))))) (q1 : Ty.den (.prod (.prod (.slice (.prod (.int .i64) (.prod (.int .i64) (.prod .str .unit)))) .unit) (.prod (.prod (.slice (.prod (.int .i64) (.prod (.int .i64) (.prod .str .unit)))) .unit) .unit))) (q2 : List (Ty.den (.prod (.int .i64) (.prod .str (.prod (.int .i64) .unit))))) : Ex tab ΓdindexF (Try.f63.body.getD .skip) (EndsF tab Try.f63.results.toList [.val ⟨.slice (.prod (.int .i64) (.prod .str (.prod (.int .i64) .unit))), xs⟩, .clo 40 [⟨.prod (.prod (.slice (.prod (.int .i64) (.prod (.int .i64) (.prod .str .unit)))) .unit) (.prod (.prod (.slice (.prod (.int .i64) (.prod (.int .i64) (.prod .str .unit)))) .unit) .unit), q1⟩, ⟨.slice (.prod (.int .i64) (.prod .str (.prod (.int .i64) .unit))), q2⟩]] ⟨.val ⟨.int .i64, firstD (keptD q1 q2) xs⟩, []⟩) (ini [.val ⟨.slice (.prod (.int .i64) (.prod .str (.prod (.int .i64) .unit))), xs⟩, .clo 40 [⟨.prod (.prod (.slice (.prod (.int .i64) (.prod (.int .i64) (.prod .str .unit)))) .unit) (.prod (.prod (.slice (.prod (.int .i64) (.prod (.int .i64) (.prod .str .unit)))) .unit) .unit), q1⟩, ⟨.slice (.prod (.int .i64) (.prod .str (.prod (.int .i64) .unit))), q2⟩]]) := by
  have g_dclo : ΓdindexF 40 = some dcloC := rfl
  simp only [Try.f63, Option.getD_some]
  simp (implicitDefEqProofs := false) (decide := true) (maxSteps := 4000000) [ini, g_dclo, dcloC_eq]
  intro hl
  have hl : xs.length ≤ 9223372036854775807 := hl
  refine ex_loopU (σ := Nat) [4, 5, 8, 9, 10, 11, 12, 13, 14, 15, 16, 17, 18] (fun a => [(8, .val (.int .i64) (a : Int))]) (fun a => a ≤ xs.length ∧ ∀ k, (hk : k < xs.length) → k < a → keptD q1 q2 xs[k] = false) (fun a => xs.length - a) 0 ⟨by simp, fun k _ h => absurd h (Nat.not_lt_zero _)⟩ (hc rfl hn) ?_
  rintro j i ⟨hi, hk⟩
  simp (implicitDefEqProofs := false) (decide := true) [ini, g_dclo, dcloC_eq]
  refine br_dec (fun hlt => ⟨hlt, br_intro (fun h => ?_) fun h => ⟨i + 1, ⟨hlt, fun k hk2 hk3 => ?_⟩, by omega, w_nat rfl (by omega)⟩⟩) fun hge => ?_
  · rw [List.getElem?_eq_getElem hlt] at h
    have h : keptD q1 q2 xs[i] = true := h
    rw [firstD, idx_hit (p := fun x => keptD q1 q2 x) hlt h (fun k hk2 => hk k (by omega) hk2)]
  · rw [List.getElem?_eq_getElem hlt] at h
    rcases Nat.lt_or_ge k i with h3 | h3
    · exact hk k hk2 h3
    · obtain rfl : k = i := by omega
      exact h
  · rw [firstD, idx_none (p := fun x => keptD q1 q2 x) (fun k hk2 => hk k hk2 (by omega))]
theorem dindexF_ok : ConOK Try.prog 63 dindexFC := by
  refine con_ok tab_ok (Γ := ΓdindexF) (consOK_cons dclo_ok consOK_nil) (by kernel_rfl) Try.func63 (by kernel_rfl) ?_
  intro args out h
  obtain ⟨x, e, h1⟩ := conF_inv h
  clear h
  obtain ⟨xs, ⟨q1, q2, x00⟩, x0⟩ := x
  subst e
  replace h1 : (some ⟨.val ⟨.int .i64, firstD (keptD q1 q2) xs⟩, []⟩) = some out := h1
  injection h1 with h1
  subst h1
  exact ⟨by rw [mkArgs2_len]; decide, dindexF_ex xs q1 q2⟩
/-- The contract of slices.DeleteFunc[[]diff.Entry,diff.Entry]. -/
def ddeleteC : Con := conR [(.r, .prod (.int .i64) (.prod .str (.prod (.int .i64) .unit))), (.c 40 [.prod (.prod (.slice (.prod (.int .i64) (.prod (.int .i64) (.prod .str .unit)))) .unit) (.prod (.prod (.slice (.prod (.int .i64) (.prod (.int .i64) (.prod .str .unit)))) .unit) .unit), .slice (.prod (.int .i64) (.prod .str (.prod (.int .i64) .unit)))], .unit)] fun (xs, (q1, q2, _), _) => if xs.length ≤ 1000000000 then some ⟨.own EnT (xs.filter fun e => !keptD q1 q2 e), []⟩ else none
theorem ddeleteC_eq {xs : List (Ty.den (.prod (.int .i64) (.prod .str (.prod (.int .i64) .unit))))} {q1 : Ty.den (.prod (.prod (.slice (.prod (.int .i64) (.prod (.int .i64) (.prod .str .unit)))) .unit) (.prod (.prod (.slice (.prod (.int .i64) (.prod (.int .i64) (.prod .str .unit)))) .unit) .unit))} {q2 : List (Ty.den (.prod (.int .i64) (.prod .str (.prod (.int .i64) .unit))))} : ddeleteC [.row (.prod (.int .i64) (.prod .str (.prod (.int .i64) .unit))) xs, .clo 40 [⟨.prod (.prod (.slice (.prod (.int .i64) (.prod (.int .i64) (.prod .str .unit)))) .unit) (.prod (.prod (.slice (.prod (.int .i64) (.prod (.int .i64) (.prod .str .unit)))) .unit) .unit), q1⟩, ⟨.slice (.prod (.int .i64) (.prod .str (.prod (.int .i64) .unit))), q2⟩]] = if xs.length ≤ 1000000000 then some ⟨.own EnT (xs.filter fun e => !keptD q1 q2 e), []⟩ else none := conR_mk (ks := [(.r, .prod (.int .i64) (.prod .str (.prod (.int .i64) .unit))), (.c 40 [.prod (.prod (.slice (.prod (.int .i64) (.prod (.int .i64) (.prod .str .unit)))) .unit) (.prod (.prod (.slice (.prod (.int .i64) (.prod (.int .i64) (.prod .str .unit)))) .unit) .unit), .slice (.prod (.int .i64) (.prod .str (.prod (.int .i64) .unit)))], .unit)]) (xs, (q1, q2, ()), ())
def Γddelete : Cons := cons [(40, dcloC), (63, dindexFC)]
theorem ddelete_ex (xs : List (Ty.den (.prod (.int .i64) (.prod .str (.prod (.int .i64) .unit))))) (q1 : Ty.den (.prod (.prod (.slice (.prod (.int .i64) (.prod (.int .i64) (.prod .str .unit)))) .unit) (.prod (.prod (.slice (.prod (.int .i64) (.prod (.int .i64) (.prod .str .unit)))) .unit) .unit))) (q2 : List (Ty.den (.prod (.int .i64) (.prod .str (.prod (.int .i64) .unit))))) (hr : xs.length ≤ 1000000000) : Ex tab Γddelete (Try.f39.body.getD .skip) (EndsF tab Try.f39.results.toList [.row (.prod (.int .i64) (.prod .str (.prod (.int .i64) .unit))) xs, .clo 40 [⟨.prod (.prod (.slice (.prod (.int .i64) (.prod (.int .i64) (.prod .str .unit)))) .unit) (.prod (.prod (.slice (.prod (.int .i64) (.prod (.int .i64) (.prod .str .unit)))) .unit) .unit), q1⟩, ⟨.slice (.prod (.int .i64) (.prod .str (.prod (.int .i64) .unit))), q2⟩]] ⟨.own EnT (xs.filter fun e => !keptD q1 q2 e), []⟩) (ini [.row (.prod (.int .i64) (.prod .str (.prod (.int .i64) .unit))) xs, .clo 40 [⟨.prod (.prod (.slice (.prod (.int .i64) (.prod (.int .i64) (.prod .str .unit)))) .unit) (.prod (.prod (.slice (.prod (.int .i64) (.prod (.int .i64) (.prod .str .unit)))) .unit) .unit), q1⟩, ⟨.slice (.prod (.int .i64) (.prod .str (.prod (.int .i64) .unit))), q2⟩]]) := by
  have g_dclo : Γddelete 40 = some dcloC := rfl
  have g_dindexF : Γddelete 63 = some dindexFC := rfl
  simp only [Try.f39, Option.getD_some]
  simp (implicitDefEqProofs := false) (decide := true) (maxSteps := 4000000) [ini, g_dclo, dcloC_eq, g_dindexF, dindexFC_eq]
  have hf1 : ∀ i, xs.findIdx? (keptD q1 q2) = some i → firstD (keptD q1 q2) xs = (i : Int) := fun i h => by rw [firstD, h]
  cases hx : xs.findIdx? (keptD q1 q2) with
  | none =>
    have hf : firstD (keptD q1 q2) xs = -1 := by rw [firstD, hx]
    rw [hf]
    refine br_intro (fun _ => ?_) fun h => by simp at h
    rw [List.findIdx?_eq_none_iff] at hx
    exact (List.filter_eq_self.2 fun x h => by rw [hx x h]; rfl).symm
  | some i0 =>
    rw [hf1 i0 hx]
    rw [List.findIdx?_eq_some_iff_getElem] at hx
    obtain ⟨h0, hp0, hk0⟩ := hx
    refine br_intro (fun h => by simp at h) fun _ => ?_
    have hl63 : xs.length ≤ 1000000000 := hr
    have w0 : IntKind.i64.wrap ((i0 : Int) + 1) = ((i0 + 1 : Nat) : Int) := w_nat rfl (by omega)
    rw [w0]
    have hone : ∀ k, (hk : k < xs.length) → (xs.take (k + 1)).filter (fun e => !keptD q1 q2 e) = (xs.take k).filter (fun e => !keptD q1 q2 e) ++ (if keptD q1 q2 xs[k] = true then [] else [xs[k]]) := fun k hk => by
      rw [List.take_succ_eq_append_getElem hk, List.filter_append]
      congr 1
      cases h : keptD q1 q2 xs[k] <;> simp [h]
    have hfst : (xs.take i0).filter (fun e => !keptD q1 q2 e) = xs.take i0 := List.filter_eq_self.2 fun x hx => by
      obtain ⟨k, hk, rfl⟩ := List.getElem_of_mem hx
      rw [List.length_take] at hk
      rw [List.getElem_take]
      have := hk0 k (by omega)
      simpa using this
    refine ex_loopU (σ := Nat × Nat × List En) [5, 6, 7, 16, 17, 18, 19, 20, 21, 22, 23, 24, 25, 26, 27, 28, 29, 30, 31, 32, 33, 34, 35, 1000000] (fun a => [(5, .val (.int .i64) (a.1 : Int)), (6, .val (.int .i64) (a.2.1 : Int)), (1000000, .own 0 EnT a.2.2)])
      (fun a => a.1 = ((xs.take a.2.1).filter fun e => !keptD q1 q2 e).length ∧ a.1 < a.2.1 ∧ a.2.1 ≤ xs.length ∧ a.2.2.length = xs.length ∧ a.2.2.take a.1 = ((xs.take a.2.1).filter fun e => !keptD q1 q2 e) ∧ a.2.2.drop a.2.1 = xs.drop a.2.1)
      (fun a => xs.length - a.2.1) (i0, i0 + 1, xs) ?_ (hc rfl (hc rfl (hc rfl hn))) ?_
    · simp only
      rw [hone i0 h0, hfst, if_pos hp0, List.append_nil, List.length_take]
      exact ⟨by omega, by omega, h0, trivial, rfl, trivial⟩
    rintro j ⟨i, k, row⟩ ⟨e1, e2, e3, e4, e5, e6⟩
    simp only at e1 e2 e3 e4 e5 e6
    simp (implicitDefEqProofs := false) (decide := true) [ini, g_dclo, dcloC_eq]
    intro _
    refine br_dec (fun hlt => ⟨hlt, ?_⟩) fun hge => ?_
    · have hlx : k < xs.length := by omega
      have hrow : row[k] = xs[k] := by
        have h1 : (row.drop k)[0]? = (xs.drop k)[0]? := by rw [e6]
        rw [List.getElem?_drop, List.getElem?_drop, Nat.add_zero, List.getElem?_eq_getElem hlt, List.getElem?_eq_getElem hlx] at h1
        exact Option.some.inj h1
      have hd : row.drop (k + 1) = xs.drop (k + 1) := by
        rw [← List.drop_drop, ← List.drop_drop, e6]
      have h2 := hone k hlx
      rw [List.getElem?_eq_getElem hlt, Option.getD_some, hrow]
      refine br_intro (fun h => ?_) fun h => ?_
      · have h : keptD q1 q2 xs[k] = false := by simpa using h
        rw [h, if_neg (by decide)] at h2
        refine ⟨by omega, i + 1, k + 1, row.set i xs[k], ⟨?_, by omega, hlx, ?_, ?_, ?_⟩, by omega, w_nat rfl (by omega), w_nat rfl (by omega), rfl⟩
        · rw [h2, List.length_append, ← e1]; rfl
        · rw [List.length_set, e4]
        · rw [h2, ← e5, List.take_succ_eq_append_getElem (by rw [List.length_set]; omega), List.take_set_of_le (Nat.le_refl _), List.getElem_set_self]
        · rw [List.drop_set_of_lt (by omega), hd]
      · have h : keptD q1 q2 xs[k] = true := by simpa using h
        rw [h, if_pos rfl, List.append_nil] at h2
        exact ⟨i, k + 1, row, ⟨by rw [h2]; exact e1, by omega, hlx, e4, by rw [h2]; exact e5, hd⟩, by omega, rfl, w_nat rfl (by omega), rfl⟩
    · obtain rfl : k = xs.length := by omega
      rw [List.take_length] at e1 e5
      refine ⟨by omega, by rw [over_len (by rw [List.length_replicate]; omega)]; omega, ?_⟩
      rw [over, List.append_assoc, List.take_left' (by rw [List.length_take]; omega), e5]
theorem ddelete_ok : ConOK Try.prog 39 ddeleteC := by
  refine con_okR tab_ok (Γ := Γddelete) (consOK_cons dclo_ok (consOK_cons dindexF_ok consOK_nil)) (by kernel_rfl) Try.func39 (by kernel_rfl) ?_
  intro args out h hne
  obtain ⟨x, e, h1⟩ := conR_inv h hne
  clear h
  obtain ⟨xs, ⟨q1, q2, x00⟩, x0⟩ := x
  subst e
  replace h1 : (if xs.length ≤ 1000000000 then some ⟨.own EnT (xs.filter fun e => !keptD q1 q2 e), []⟩ else none) = some out := h1
  split at h1
  case isFalse => cases h1
  rename_i hr
  injection h1 with h1
  subst h1
  exact ⟨by rw [mkArgs2_len]; decide, ddelete_ex xs q1 q2 hr⟩
end Go.Proofs.Ytahefjfkfmoplaa
