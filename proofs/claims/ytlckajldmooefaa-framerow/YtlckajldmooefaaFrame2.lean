/- frame: which commands may be, by the document's answer. -/
import Derived.Test.YtlckajldmooefaaFrame1
set_option maxRecDepth 10000
set_option maxHeartbeats 8000000
set_option linter.unusedSimpArgs false
set_option linter.unusedVariables false
set_option pp.deepTerms.threshold 14
namespace Go.Proofs.Ytlckajldmooefaa
open Go.Tm Go.IntWalk

theorem bare_kind {c : Cmd} (h : c.1 < 1 ∨ 9 < c.1) : (bareS c).2 = false := by
  unfold bareS
  rw [if_neg (by omega), if_neg (by omega), if_neg (by omega), if_neg (by omega), if_neg (by omega), if_neg (by omega), if_neg (by omega), if_neg (by omega)]
theorem bare_kind' {c : Cmd} (h : ¬ c.1 < 1) (h2 : ¬ 9 < c.1) : (bareS c).2 = true := by
  unfold bareS
  repeat' split
  all_goals first | rfl | omega
theorem may_kind {c : Cmd} (h : c.1 < 1 ∨ 9 < c.1) : mayS c = false := by
  unfold mayS
  rw [bare_kind h]
  rfl
theorem may_num {c : Cmd} (h : nums c = false) : mayS c = false := by
  unfold mayS
  simp only [h, Bool.and_false, Bool.false_and]
theorem may_ino {c : Cmd} (h : c.2.2.2.1 < 0 ∨ 9 < c.2.2.2.1) : mayS c = false := by
  have : (decide (0 ≤ c.2.2.2.1) && decide (c.2.2.2.1 ≤ 9)) = false := by
    rcases h with h | h
    · rw [decide_eq_false (by omega)]; rfl
    · rw [decide_eq_false (p := c.2.2.2.1 ≤ 9) (by omega), Bool.and_false]
  unfold mayS
  simp only [this, Bool.and_false, Bool.false_and]
theorem may_mode {c : Cmd} (h : c.2.2.2.2.1 < 0 ∨ 255 < c.2.2.2.2.1) : mayS c = false := by
  have : (decide (0 ≤ c.2.2.2.2.1) && decide (c.2.2.2.2.1 ≤ 255)) = false := by
    rcases h with h | h
    · rw [decide_eq_false (by omega)]; rfl
    · rw [decide_eq_false (p := c.2.2.2.2.1 ≤ 255) (by omega), Bool.and_false]
  unfold mayS
  simp only [this, Bool.and_false, Bool.false_and]
theorem may_size {c : Cmd} (h : 56 < (c.2.2.2.2.2.2.1.size : Int) ∨ 56 < (c.2.2.2.2.2.2.2.1.size : Int) ∨ 40 < (c.2.2.2.2.2.2.2.2.1.size : Int)) : mayS c = false := by
  unfold mayS
  rcases h with h | h | h
  · rw [decide_eq_false (p := (c.2.2.2.2.2.2.1.size : Int) ≤ 56) (by omega)]
    simp only [Bool.and_false, Bool.false_and]
  · rw [decide_eq_false (p := (c.2.2.2.2.2.2.2.1.size : Int) ≤ 56) (by omega)]
    simp only [Bool.and_false, Bool.false_and]
  · rw [decide_eq_false (p := (c.2.2.2.2.2.2.2.2.1.size : Int) ≤ 40) (by omega), Bool.and_false]
theorem may_rest {c : Cmd} (h1 : ¬ c.1 < 1) (h2 : ¬ 9 < c.1) (h3 : nums c = true) (h4 : ¬ c.2.2.2.1 < 0) (h5 : ¬ 9 < c.2.2.2.1) (h6 : ¬ c.2.2.2.2.1 < 0) (h7 : ¬ 255 < c.2.2.2.2.1)
    (h8 : ¬ 56 < (c.2.2.2.2.2.2.1.size : Int)) (h9 : ¬ 56 < (c.2.2.2.2.2.2.2.1.size : Int)) (h10 : ¬ 40 < (c.2.2.2.2.2.2.2.2.1.size : Int)) : mayS c = same CmdT (bareS c).1 c := by
  unfold mayS
  rw [bare_kind' h1 h2, h3, decide_eq_true (p := 0 ≤ c.2.2.2.1) (by omega), decide_eq_true (p := c.2.2.2.1 ≤ 9) (by omega), decide_eq_true (p := 0 ≤ c.2.2.2.2.1) (by omega), decide_eq_true (p := c.2.2.2.2.1 ≤ 255) (by omega),
    decide_eq_true (p := (c.2.2.2.2.2.2.1.size : Int) ≤ 56) (by omega), decide_eq_true (p := (c.2.2.2.2.2.2.2.1.size : Int) ≤ 56) (by omega), decide_eq_true (p := (c.2.2.2.2.2.2.2.2.1.size : Int) ≤ 40) (by omega)]
  simp only [Bool.and_true, Bool.true_and]
/-- The contract of glacisref20.MayCmd. -/
def rmayC : Con := conN [(.v, .prod (.int .i64) (.prod (.int .i64) (.prod (.int .i64) (.prod (.int .i64) (.prod (.int .i64) (.prod (.int .i64) (.prod .str (.prod .str (.prod .str .unit)))))))))] fun (c, _) => some ⟨.val ⟨.bool, mayS c⟩, []⟩
theorem rmayC_eq {c : Ty.den (.prod (.int .i64) (.prod (.int .i64) (.prod (.int .i64) (.prod (.int .i64) (.prod (.int .i64) (.prod (.int .i64) (.prod .str (.prod .str (.prod .str .unit)))))))))} : rmayC [.val ⟨.prod (.int .i64) (.prod (.int .i64) (.prod (.int .i64) (.prod (.int .i64) (.prod (.int .i64) (.prod (.int .i64) (.prod .str (.prod .str (.prod .str .unit)))))))), c⟩] = some ⟨.val ⟨.bool, mayS c⟩, []⟩ := conN_mk (ks := [(.v, .prod (.int .i64) (.prod (.int .i64) (.prod (.int .i64) (.prod (.int .i64) (.prod (.int .i64) (.prod (.int .i64) (.prod .str (.prod .str (.prod .str .unit)))))))))]) (c, ())
def Γrmay : Cons := cons [(26, rnumC)]
theorem rmay_ex (c : Ty.den (.prod (.int .i64) (.prod (.int .i64) (.prod (.int .i64) (.prod (.int .i64) (.prod (.int .i64) (.prod (.int .i64) (.prod .str (.prod .str (.prod .str .unit)))))))))) : Ex tab Γrmay (Try.f14.body.getD .skip) (EndsF tab Try.f14.results.toList [.val ⟨.prod (.int .i64) (.prod (.int .i64) (.prod (.int .i64) (.prod (.int .i64) (.prod (.int .i64) (.prod (.int .i64) (.prod .str (.prod .str (.prod .str .unit)))))))), c⟩] ⟨.val ⟨.bool, mayS c⟩, []⟩) (ini [.val ⟨.prod (.int .i64) (.prod (.int .i64) (.prod (.int .i64) (.prod (.int .i64) (.prod (.int .i64) (.prod (.int .i64) (.prod .str (.prod .str (.prod .str .unit)))))))), c⟩]) := by
  have g_rnum : Γrmay 26 = some rnumC := rfl
  simp only [Try.f14, Option.getD_some]
  simp (implicitDefEqProofs := false) (decide := true) (maxSteps := 4000000) [ini, g_rnum, rnumC_eq]
  refine br_dec (fun h => may_kind (.inl h)) fun h1 => br_dec (fun h => may_kind (.inr h)) fun h2 => br_intro (fun h => may_num ?_) fun h3 => br_intro (fun h => may_num ?_) fun h4 => br_intro (fun h => may_num ?_) fun h5 =>
    br_dec (fun h => may_ino (.inl h)) fun h6 => br_dec (fun h => may_ino (.inr h)) fun h7 => br_dec (fun h => may_mode (.inl h)) fun h8 => br_dec (fun h => may_mode (.inr h)) fun h9 =>
    br_dec (fun h => may_size (.inl h)) fun h10 => br_dec (fun h => may_size (.inr (.inl h))) fun h11 => br_dec (fun h => may_size (.inr (.inr h))) fun h12 => ?_
  · unfold nums; rw [show okNum c.2.1 = false by simpa using h]; rfl
  · unfold nums; rw [show okNum c.2.2.1 = false by simpa using h, Bool.and_false]; rfl
  · unfold nums; rw [show okNum c.2.2.2.2.2.1 = false by simpa using h, Bool.and_false]
  have hn : nums c = true := by
    unfold nums
    rw [show okNum c.2.1 = true by simpa using h3, show okNum c.2.2.1 = true by simpa using h4, show okNum c.2.2.2.2.2.1 = true by simpa using h5]; rfl
  rw [may_rest h1 h2 hn h6 h7 h8 h9 h10 h11 h12]
  clear h3 h4 h5 h6 h7 h8 h9 h10 h11 h12 hn
  have h1 : ¬ c.1 < 1 := h1
  have h2 : ¬ 9 < c.1 := h2
  rcases c with ⟨k, r⟩
  simp only at h1 h2
  simp only [bareS]
  rcases (show @Eq Int k 1 ∨ @Eq Int k 2 ∨ @Eq Int k 3 ∨ @Eq Int k 4 ∨ @Eq Int k 5 ∨ @Eq Int k 6 ∨ @Eq Int k 7 ∨ @Eq Int k 8 ∨ @Eq Int k 9 by omega) with rfl | rfl | rfl | rfl | rfl | rfl | rfl | rfl | rfl <;> simp [br]
theorem rmay_ok : ConOK Try.prog 14 rmayC := by
  refine con_ok tab_ok (Γ := Γrmay) (consOK_cons rnum_ok consOK_nil) (by kernel_rfl) Try.func14 (by kernel_rfl) ?_
  intro args out h
  obtain ⟨x, e, h1⟩ := conN_inv h
  clear h
  obtain ⟨c, x0⟩ := x
  subst e
  replace h1 : (some ⟨.val ⟨.bool, mayS c⟩, []⟩) = some out := h1
  injection h1 with h1
  subst h1
  exact ⟨by rw [mkArgs_len]; decide, rmay_ex c⟩
end Go.Proofs.Ytlckajldmooefaa
