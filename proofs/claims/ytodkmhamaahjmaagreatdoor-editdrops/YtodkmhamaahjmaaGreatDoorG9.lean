/- Texts joined: EditF, EditX. -/
import Derived.Test.YtodkmhamaahjmaaGreatDoorG8
import Derived.Test.YtodkmhamaahjmaaGreatDoorPEdit
/- edit: free: the first node that is not there. -/
set_option maxRecDepth 100000
set_option maxHeartbeats 4000000
set_option linter.unusedSimpArgs false
set_option linter.unusedVariables false
set_option pp.deepTerms.threshold 20
namespace Go.Proofs.YtodkmhamaahjmaaGreatDoor
open Go.Tm Go.IntWalk Go.RowKit
/-- The contract of (*edit.work).free$1. -/
def efree1C : Con := conN [(.v, NodeT)] fun (n, _) => some ⟨.val ⟨.bool, n.1 == 0⟩, []⟩
theorem efree1C_eq {n : Ty.den (NodeT)} : efree1C [.val ⟨NodeT, n⟩] = some ⟨.val ⟨.bool, n.1 == 0⟩, []⟩ := conN_mk (ks := [(.v, NodeT)]) (n, ())
def Γefree1 : Cons := cons []
theorem efree1_ex (n : Ty.den (NodeT)) : Ex tab Γefree1 (Tryz.f67.body.getD .skip) (EndsF tab Tryz.f67.results.toList [.val ⟨NodeT, n⟩] ⟨.val ⟨.bool, n.1 == 0⟩, []⟩) (ini [.val ⟨NodeT, n⟩]) := by
  simp only [Tryz.f67, Option.getD_some]
  simp (implicitDefEqProofs := false) (decide := true) (maxSteps := 4000000) [ini]
theorem efree1_ok : ConOK Tryz.prog 67 efree1C := by
  refine con_ok tab_ok (Γ := Γefree1) consOK_nil (by kernel_rfl) Tryz.func67 (by kernel_rfl) ?_
  intro args out h
  obtain ⟨x, e, h1⟩ := conN_inv h
  clear h
  obtain ⟨n, x0⟩ := x
  subst e
  replace h1 : (some ⟨.val ⟨.bool, n.1 == 0⟩, []⟩) = some out := h1
  injection h1 with h1
  subst h1
  exact ⟨by rw [mkArgs_len]; decide, efree1_ex n⟩
def freeI (t : List Node) : Int := match t.findIdx? fun n => n.1 == 0 with | some i => (i : Int) | none => -1
theorem freeI_hit {t : List Node} {i : Nat} (hi : i < t.length) (h : (t[i].1 == 0) = true) (hk : ∀ k (hk : k < t.length), k < i → (t[k].1 == 0) = false) : freeI t = (i : Int) := by
  have : (t.findIdx? fun n => n.1 == 0) = some i := by
    rw [List.findIdx?_eq_some_iff_getElem]
    exact ⟨hi, h, fun j hj => by rw [hk j (by omega) hj]; decide⟩
  unfold freeI
  rw [this]
theorem freeI_none {t : List Node} (hk : ∀ k (hk : k < t.length), (t[k].1 == 0) = false) : freeI t = -1 := by
  have : (t.findIdx? fun n => n.1 == 0) = none := by
    rw [List.findIdx?_eq_none_iff]
    intro x hx
    obtain ⟨k, hk2, rfl⟩ := List.getElem_of_mem hx
    exact hk k hk2
  unfold freeI
  rw [this]
/-- None of the first nodes is free. -/
def noneTo (xs : List Node) (a : Nat) : Prop := ∀ k, (hk : k < xs.length) → k < a → (xs[k].1 == 0) = false
/-- The contract of slices.IndexFunc[api.Tree,api.Node]. -/
def eindexFC : Con := conF [(.v, TreeT), (.c 67 [], .unit)] fun (xs, _, _) => if xs.length ≤ 1000000 then some ⟨.val ⟨.int .i64, freeI xs⟩, []⟩ else none
theorem eindexFC_eq {xs : Ty.den (TreeT)} : eindexFC [.val ⟨TreeT, xs⟩, .clo 67 []] = if xs.length ≤ 1000000 then some ⟨.val ⟨.int .i64, freeI xs⟩, []⟩ else none := conF_mk (ks := [(.v, TreeT), (.c 67 [], .unit)]) (xs, (), ())
def ΓeindexF : Cons := cons [(67, efree1C)]
theorem eindexF_ex (xs : Ty.den (TreeT)) (hr : xs.length ≤ 1000000) : Ex tab ΓeindexF (Tryz.f66.body.getD .skip) (EndsF tab Tryz.f66.results.toList [.val ⟨TreeT, xs⟩, .clo 67 []] ⟨.val ⟨.int .i64, freeI xs⟩, []⟩) (ini [.val ⟨TreeT, xs⟩, .clo 67 []]) := by
  have g_efree1 : ΓeindexF 67 = some efree1C := rfl
  simp only [Tryz.f66, Option.getD_some]
  simp (implicitDefEqProofs := false) (decide := true) (maxSteps := 4000000) [ini, g_efree1, efree1C_eq]
  intro _
  have hl : xs.length ≤ 1000000 := hr
  refine ex_loopU (σ := Nat) [4, 5, 8, 9, 10, 11, 12, 13, 14, 15, 16, 17, 18] (fun a => [(8, .val (.int .i64) (a : Int))]) (fun a => a ≤ xs.length ∧ noneTo xs a) (fun a => xs.length - a) 0 ⟨by simp, fun k _ h => absurd h (Nat.not_lt_zero _)⟩ (hc rfl hn) ?_
  rintro j i ⟨hi, hk⟩
  simp (implicitDefEqProofs := false) (decide := true) [ini, g_efree1, efree1C_eq]
  refine br_dec (fun hlt => ⟨hlt, br_intro (fun h => ?_) fun h => ⟨i + 1, ⟨hlt, fun k hk2 hk3 => ?_⟩, by omega, w_nat rfl (by omega)⟩⟩) fun hge => ?_
  · rw [List.getElem?_eq_getElem hlt] at h
    exact (freeI_hit hlt (by simpa using h) hk).symm
  · rw [List.getElem?_eq_getElem hlt] at h
    rcases Nat.lt_or_ge k i with h3 | h3
    · exact hk k hk2 h3
    · obtain rfl : k = i := by omega
      simpa using h
  · exact (freeI_none (fun k hk2 => hk k hk2 (by omega))).symm
theorem eindexF_ok : ConOK Tryz.prog 66 eindexFC := by
  refine con_ok tab_ok (Γ := ΓeindexF) (consOK_cons efree1_ok consOK_nil) (by kernel_rfl) Tryz.func66 (by kernel_rfl) ?_
  intro args out h
  obtain ⟨x, e, h1⟩ := conF_inv h
  clear h
  obtain ⟨xs, x00, x0⟩ := x
  subst e
  replace h1 : (if xs.length ≤ 1000000 then some ⟨.val ⟨.int .i64, freeI xs⟩, []⟩ else none) = some out := h1
  split at h1
  case isFalse => cases h1
  rename_i hr
  injection h1 with h1
  subst h1
  exact ⟨by rw [mkArgs2_len]; decide, eindexF_ex xs hr⟩
end Go.Proofs.YtodkmhamaahjmaaGreatDoor

/- edit: free, on the machine. -/
set_option maxRecDepth 100000
set_option maxHeartbeats 4000000
set_option linter.unusedSimpArgs false
set_option linter.unusedVariables false
set_option pp.deepTerms.threshold 20
namespace Go.Proofs.YtodkmhamaahjmaaGreatDoor
open Go.Tm Go.IntWalk Go.RowKit
theorem freeI_free (t : List Node) : (freeI t < 0 ∧ freeT t = 0) ∨ ∃ i : Nat, freeI t = (i : Int) ∧ freeT t = (i : Int) + 1 ∧ i < t.length := by
  unfold freeI freeT
  cases h : t.findIdx? fun n => n.1 == 0 with
  | none => exact .inl ⟨by decide, rfl⟩
  | some i => exact .inr ⟨i, rfl, rfl, (List.findIdx?_eq_some_iff_getElem.1 h).1⟩
theorem indexF_calls (t : List Node) (h9 : t.length = 9) {w : World} {R : Nat → Prop} {v : Value} (hv : vrep w R TreeT t v) :
    Calls Tryz.prog 66 #[v, .func (.func 67) #[] #[]] w fun e w' => e = .returned (.int .i64 (freeI t)) ∧ But w none w' := by
  have hc : eindexFC [.val ⟨TreeT, t⟩, .clo 67 []] = some ⟨.val ⟨.int .i64, freeI t⟩, []⟩ := by rw [eindexFC_eq, if_pos (by omega)]
  have hrd : Ready w R [.val ⟨TreeT, t⟩, .clo 67 []] [v, .func (.func 67) #[] #[]] := ⟨⟨v, _, rfl, hv, _, _, rfl, ⟨[], rfl, rfl⟩, rfl⟩, List.nodup_nil, fun b hb => by cases hb⟩
  refine (goes_calls Tryz.func66 (by kernel_rfl) (by kernel_rfl) (eindexF_ok _ _ _ _ _ hc hrd)).mono ?_
  rintro e w' ⟨v', rfl, h⟩
  have hu := vrep_int h.res
  subst hu
  exact ⟨rfl, kept_but h.kept (fun b hb => by cases hb)⟩
theorem free_calls {w0 w : World} {b : Nat} {ad : Addr} {c : Nat} {t : List Node} {own : Bool} (h : WK w0 w b ad c t own) :
    Calls Tryz.prog 36 #[.pointer (some ⟨b, 0, none⟩)] w fun en w' => en = (if freeT t = 0 then UpE 8 else .returned (.int .i64 (freeT t))) ∧ But w none w' := by
  have mixed : Tryz.prog.follows .mixedOrders = true := by kernel_rfl
  obtain ⟨x0, x1, x2⟩ := h.cells
  have hv := h.vrep
  have h9 := h.2.2.1
  clear h
  rcases freeI_free t with ⟨h1, h2⟩ | ⟨i, h1, h2, h3⟩
  · rw [h2, if_pos rfl]
    go_enter Tryz.func36, Tryz.ntmps36
    go_wp2_with fail
    refine (indexF_calls t h9 hv).mono ?_
    rintro _ wa ⟨rfl, ba⟩
    obtain ⟨I, hI⟩ : ∃ I, freeI t = I := ⟨_, rfl⟩
    rw [hI] at h1 ⊢
    go_wp2_with fail
    refine (no_yes _ _).mono ?_
    rintro _ w2 ⟨rfl, rfl⟩
    exact ⟨rfl, rfl, ba⟩
  · rw [h2, if_neg (by omega)]
    have hw : IntKind.i64.wrap ((i : Int) + 1) = (i : Int) + 1 := by rw [IntKind.wrap_i64]; omega
    have hi : ¬ ((i : Int) < 0) := by omega
    go_enter Tryz.func36, Tryz.ntmps36
    go_wp2_with fail
    refine (indexF_calls t h9 hv).mono ?_
    rintro _ wa ⟨rfl, ba⟩
    rw [h1]
    go_wp2_with fail
    refine (no_no _ _).mono ?_
    rintro _ w2 ⟨rfl, rfl⟩
    go_wp2_with fail
    go_ret
    exact ⟨rfl, ba⟩
end Go.Proofs.YtodkmhamaahjmaaGreatDoor
