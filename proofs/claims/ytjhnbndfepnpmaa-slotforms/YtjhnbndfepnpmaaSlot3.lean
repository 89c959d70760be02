/- slot: the newest of some. -/
import Derived.Test.YtjhnbndfepnpmaaSlot2
set_option maxRecDepth 10000
set_option maxHeartbeats 1000000
set_option linter.unusedSimpArgs false
set_option linter.unusedVariables false
set_option pp.deepTerms.threshold 12
namespace Go.Proofs.Ytjhnbndfepnpmaa
open Go.Tm Go.IntWalk

def nwStep (a : Sl × Bool) (t : ByteArray) : Sl × Bool := if ((takeSl t).2 && (!a.2 || decide (a.1.1 < (takeSl t).1.1))) = true then ((takeSl t).1, true) else a
def nw (l : List ByteArray) : Sl × Bool := l.foldl nwStep (noSl, false)
theorem nw_take (l : List ByteArray) {i : Nat} (h : i < l.length) : nw (l.take (i + 1)) = nwStep (nw (l.take i)) ((l[i]?).getD no) := by
  unfold nw
  rw [List.take_succ_eq_append_getElem h, List.foldl_append, List.getElem?_eq_getElem h]
  rfl
theorem nw_no {a : Sl × Bool} {t : ByteArray} (h : (takeSl t).2 = false) : nwStep a t = a := if_neg (by rw [h]; simp)
theorem nw_first {a : Sl × Bool} {t : ByteArray} (h : (takeSl t).2 = true) (h2 : a.2 = false) : nwStep a t = ((takeSl t).1, true) := if_pos (by rw [h, h2]; rfl)
theorem nw_gt {a : Sl × Bool} {t : ByteArray} (h : (takeSl t).2 = true) (h2 : a.1.1 < (takeSl t).1.1) : nwStep a t = ((takeSl t).1, true) := if_pos (by rw [h, decide_eq_true h2]; simp)
theorem nw_le {a : Sl × Bool} {t : ByteArray} (h2 : a.2 = true) (h3 : ¬ a.1.1 < (takeSl t).1.1) : nwStep a t = a := if_neg (by rw [h2, decide_eq_false h3]; simp)
abbrev TkT : Ty := .prod SlT (.prod .bool .unit)
/-- The contract of slot.Newest. -/
def snewestC : Con := conN [(.v, .slice .str)] fun (l, _) => some ⟨.tup [⟨SlT, (nw l).1⟩, ⟨.bool, (nw l).2⟩], []⟩
theorem snewestC_eq {l : List ByteArray} : snewestC [.val ⟨.slice .str, l⟩] = some ⟨.tup [⟨SlT, (nw l).1⟩, ⟨.bool, (nw l).2⟩], []⟩ := conN_mk (ks := [(.v, .slice .str)]) (l, ())
def Γsnewest : Cons := cons [(12, stakeC)]
theorem snewest_ex (l : List ByteArray) : Ex tab Γsnewest (Try.f14.body.getD .skip) (EndsF tab Try.f14.results.toList [.val ⟨.slice .str, l⟩] ⟨.tup [⟨SlT, (nw l).1⟩, ⟨.bool, (nw l).2⟩], []⟩) (ini [.val ⟨.slice .str, l⟩]) := by
  have g_stake : Γsnewest 12 = some stakeC := rfl
  simp only [Try.f14, Option.getD_some]
  simp (implicitDefEqProofs := false) (decide := true) (maxSteps := 4000000) [ini, g_stake, stakeC_eq]
  intro m m1 hl
  have hl : l.length ≤ 9223372036854775807 := hl
  refine ex_loopU (σ := Nat × Nat) [6, 7, 8, 11, 12, 13, 14, 15, 16, 17, 18, 19, 20, 21, 22, 23, 24, 25, 26, 27, 28, 29, 30, 31, 32, 33, 34, 35, 36, 4] (fun a => [(11, .val (.int .i64) (a.1 : Int)), (4, .obj a.2 TkT ((nw (l.take a.1)).1, (nw (l.take a.1)).2, ()))]) (fun a => a.1 ≤ l.length) (fun a => l.length - a.1) (0, _) (by simp) (hc rfl (hc rfl hn)) ?_
  rintro j ⟨i, q⟩ hi
  have hi : i ≤ l.length := hi
  simp (implicitDefEqProofs := false) (decide := true) [ini, g_stake, stakeC_eq]
  refine br_dec (fun hlt => ⟨hlt, ?_⟩) fun hge => ?_
  · have hs := nw_take l hlt
    have w : IntKind.i64.wrap ((i : Int) + 1) = ((i + 1 : Nat) : Int) := w_nat rfl (by omega)
    rw [w]
    generalize (l[i]?).getD no = t at hs ⊢
    refine br_intro (fun h1 => br_intro (fun h2 => ?_) fun h2 => br_dec (fun h3 => ?_) fun h3 => ?_) fun h1 => ?_
    · refine ⟨i + 1, hlt, by omega, rfl, ?_⟩
      rw [hs, nw_first h1 (not_t h2)]
      exact ⟨rfl, rfl⟩
    · refine ⟨i + 1, hlt, by omega, rfl, ?_⟩
      rw [hs, nw_gt h1 h3]
      exact ⟨rfl, rfl⟩
    · refine ⟨i + 1, hlt, by omega, rfl, ?_⟩
      rw [hs, nw_le (not_f h2) h3]
      exact ⟨rfl, rfl⟩
    · refine ⟨i + 1, hlt, by omega, rfl, ?_⟩
      rw [hs, nw_no h1]
      exact ⟨rfl, rfl⟩
  · obtain rfl : i = l.length := by omega
    rw [List.take_length]
    exact ⟨rfl, rfl⟩
theorem snewest_ok : ConOK Try.prog 14 snewestC := by
  refine con_ok tab_ok (Γ := Γsnewest) (consOK_cons stake_ok consOK_nil) (by kernel_rfl) Try.func14 (by kernel_rfl) ?_
  intro args out h
  obtain ⟨x, e, h1⟩ := conN_inv h
  clear h
  obtain ⟨l, x0⟩ := x
  subst e
  replace h1 : (some ⟨.tup [⟨SlT, (nw l).1⟩, ⟨.bool, (nw l).2⟩], []⟩) = some out := h1
  injection h1 with h1
  subst h1
  exact ⟨by rw [mkArgs_len]; decide, snewest_ex l⟩
/-- The contract of glacisref1.Newest. -/
def rsnewestC : Con := conN [(.v, .slice .str)] fun (l, _) => some ⟨.tup [⟨SlT, (nw l).1⟩, ⟨.bool, (nw l).2⟩], []⟩
theorem rsnewestC_eq {l : List ByteArray} : rsnewestC [.val ⟨.slice .str, l⟩] = some ⟨.tup [⟨SlT, (nw l).1⟩, ⟨.bool, (nw l).2⟩], []⟩ := conN_mk (ks := [(.v, .slice .str)]) (l, ())
def Γrsnewest : Cons := cons [(13, rstakeC)]
theorem rsnewest_ex (l : List ByteArray) : Ex tab Γrsnewest (Try.f15.body.getD .skip) (EndsF tab Try.f15.results.toList [.val ⟨.slice .str, l⟩] ⟨.tup [⟨SlT, (nw l).1⟩, ⟨.bool, (nw l).2⟩], []⟩) (ini [.val ⟨.slice .str, l⟩]) := by
  have g_rstake : Γrsnewest 13 = some rstakeC := rfl
  simp only [Try.f15, Option.getD_some]
  simp (implicitDefEqProofs := false) (decide := true) (maxSteps := 4000000) [ini, g_rstake, rstakeC_eq]
  intro m m1
  refine ex_loopU (σ := Nat × Nat) [5, 6, 7, 8, 10, 11, 12, 13, 14, 15, 16, 17, 18, 19, 20, 21, 22, 23, 24, 25, 26, 27, 28, 29, 30, 31, 32, 33, 34, 35, 36, 4] (fun a => [(6, .val (.int .i64) (a.1 : Int)), (4, .obj a.2 SlT (nw (l.take a.1)).1), (5, .val .bool (nw (l.take a.1)).2)]) (fun a => a.1 ≤ l.length) (fun a => l.length - a.1) (0, _) (by simp) (hc rfl (hc rfl (hc rfl hn))) ?_
  rintro j ⟨i, q⟩ hi
  have hi : i ≤ l.length := hi
  simp (implicitDefEqProofs := false) (decide := true) [ini, g_rstake, rstakeC_eq]
  intro hl
  have hl : l.length ≤ 9223372036854775807 := hl
  refine br_dec (fun hlt => ⟨hlt, ?_⟩) fun hge => ?_
  · have hs := nw_take l hlt
    have w : IntKind.i64.wrap ((i : Int) + 1) = ((i + 1 : Nat) : Int) := w_nat rfl (by omega)
    rw [w]
    generalize (l[i]?).getD no = t at hs ⊢
    refine br_intro (fun h1 => br_intro (fun h2 => ?_) fun h2 => br_dec (fun h3 => ?_) fun h3 => ?_) fun h1 => ?_
    · refine ⟨i + 1, hlt, by omega, rfl, ?_⟩
      rw [hs, nw_first h1 (not_t h2)]
      exact ⟨rfl, rfl⟩
    · refine ⟨i + 1, hlt, by omega, rfl, ?_⟩
      rw [hs, nw_gt h1 h3]
      exact ⟨rfl, rfl⟩
    · refine ⟨i + 1, hlt, by omega, rfl, ?_⟩
      rw [hs, nw_le (not_f h2) h3]
      exact ⟨rfl, rfl⟩
    · refine ⟨i + 1, hlt, by omega, rfl, ?_⟩
      rw [hs, nw_no h1]
      exact ⟨rfl, rfl⟩
  · obtain rfl : i = l.length := by omega
    rw [List.take_length]
    exact ⟨rfl, rfl⟩
theorem rsnewest_ok : ConOK Try.prog 15 rsnewestC := by
  refine con_ok tab_ok (Γ := Γrsnewest) (consOK_cons rstake_ok consOK_nil) (by kernel_rfl) Try.func15 (by kernel_rfl) ?_
  intro args out h
  obtain ⟨x, e, h1⟩ := conN_inv h
  clear h
  obtain ⟨l, x0⟩ := x
  subst e
  replace h1 : (some ⟨.tup [⟨SlT, (nw l).1⟩, ⟨.bool, (nw l).2⟩], []⟩) = some out := h1
  injection h1 with h1
  subst h1
  exact ⟨by rw [mkArgs_len]; decide, rsnewest_ex l⟩
end Go.Proofs.Ytjhnbndfepnpmaa
