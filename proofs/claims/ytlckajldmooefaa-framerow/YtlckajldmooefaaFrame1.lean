/- frame: which commands may be; frames. -/
import Derived.Test.YtlckajldmooefaaBits1
import Derived.Test.YtlckajldmooefaaBits2
set_option maxRecDepth 10000
set_option linter.unusedSimpArgs false
set_option linter.unusedVariables false
set_option pp.deepTerms.threshold 14
namespace Go.Proofs.Ytlckajldmooefaa
open Go.Tm Go.IntWalk

abbrev CmdT : Ty := .prod (.int .i64) (.prod (.int .i64) (.prod (.int .i64) (.prod (.int .i64) (.prod (.int .i64) (.prod (.int .i64) (.prod .str (.prod .str (.prod .str .unit))))))))
abbrev Cmd : Type := Int × Int × Int × Int × Int × Int × ByteArray × ByteArray × ByteArray × Unit
abbrev no : ByteArray := ⟨#[]⟩
/-- Kind, Base, UUID, Ino, Mode, Off, From, To, Text. -/
def bareS (c : Cmd) : Cmd × Bool :=
  if c.1 = 1 then ((c.1, c.2.1, c.2.2.1, 0, 0, 0, no, no, no, ()), true) else
  if c.1 = 2 then ((c.1, 0, 0, c.2.2.2.1, c.2.2.2.2.1, 0, no, c.2.2.2.2.2.2.2.1, no, ()), true) else
  if c.1 = 3 ∨ c.1 = 4 then ((c.1, 0, 0, 0, 0, 0, c.2.2.2.2.2.2.1, c.2.2.2.2.2.2.2.1, no, ()), true) else
  if c.1 = 5 then ((c.1, 0, 0, 0, 0, 0, c.2.2.2.2.2.2.1, no, no, ()), true) else
  if c.1 = 6 then ((c.1, 0, 0, 0, 0, c.2.2.2.2.2.1, c.2.2.2.2.2.2.1, no, c.2.2.2.2.2.2.2.2.1, ()), true) else
  if c.1 = 7 then ((c.1, 0, 0, 0, 0, c.2.2.2.2.2.1, c.2.2.2.2.2.2.1, no, no, ()), true) else
  if c.1 = 8 then ((c.1, 0, 0, 0, c.2.2.2.2.1, 0, c.2.2.2.2.2.2.1, no, no, ()), true) else
  if c.1 = 9 then ((c.1, 0, 0, 0, 0, c.2.2.2.2.2.1, no, no, no, ()), true) else
  ((c.1, 0, 0, 0, 0, 0, no, no, no, ()), false)

/-- The contract of frame.bare. -/
def bareC : Con := conN [(.v, .prod (.int .i64) (.prod (.int .i64) (.prod (.int .i64) (.prod (.int .i64) (.prod (.int .i64) (.prod (.int .i64) (.prod .str (.prod .str (.prod .str .unit)))))))))] fun (c, _) => some ⟨.tup [⟨CmdT, (bareS c).1⟩, ⟨.bool, (bareS c).2⟩], []⟩
theorem bareC_eq {c : Ty.den (.prod (.int .i64) (.prod (.int .i64) (.prod (.int .i64) (.prod (.int .i64) (.prod (.int .i64) (.prod (.int .i64) (.prod .str (.prod .str (.prod .str .unit)))))))))} : bareC [.val ⟨.prod (.int .i64) (.prod (.int .i64) (.prod (.int .i64) (.prod (.int .i64) (.prod (.int .i64) (.prod (.int .i64) (.prod .str (.prod .str (.prod .str .unit)))))))), c⟩] = some ⟨.tup [⟨CmdT, (bareS c).1⟩, ⟨.bool, (bareS c).2⟩], []⟩ := conN_mk (ks := [(.v, .prod (.int .i64) (.prod (.int .i64) (.prod (.int .i64) (.prod (.int .i64) (.prod (.int .i64) (.prod (.int .i64) (.prod .str (.prod .str (.prod .str .unit)))))))))]) (c, ())
def Γbare : Cons := cons []
theorem bare_ex (c : Ty.den (.prod (.int .i64) (.prod (.int .i64) (.prod (.int .i64) (.prod (.int .i64) (.prod (.int .i64) (.prod (.int .i64) (.prod .str (.prod .str (.prod .str .unit)))))))))) : Ex tab Γbare (Try.f25.body.getD .skip) (EndsF tab Try.f25.results.toList [.val ⟨.prod (.int .i64) (.prod (.int .i64) (.prod (.int .i64) (.prod (.int .i64) (.prod (.int .i64) (.prod (.int .i64) (.prod .str (.prod .str (.prod .str .unit)))))))), c⟩] ⟨.tup [⟨CmdT, (bareS c).1⟩, ⟨.bool, (bareS c).2⟩], []⟩) (ini [.val ⟨.prod (.int .i64) (.prod (.int .i64) (.prod (.int .i64) (.prod (.int .i64) (.prod (.int .i64) (.prod (.int .i64) (.prod .str (.prod .str (.prod .str .unit)))))))), c⟩]) := by
  simp only [Try.f25, Option.getD_some]
  simp (implicitDefEqProofs := false) (decide := true) (maxSteps := 4000000) [ini]
  rcases c with ⟨k, r⟩
  simp only [bareS]
  by_cases h1 : k = 1
  · subst h1; simp [br]
  by_cases h2 : k = 2
  · subst h2; simp [br]
  by_cases h3 : k = 3
  · subst h3; simp [br]
  by_cases h4 : k = 4
  · subst h4; simp [br]
  by_cases h5 : k = 5
  · subst h5; simp [br]
  by_cases h6 : k = 6
  · subst h6; simp [br]
  by_cases h7 : k = 7
  · subst h7; simp [br]
  by_cases h8 : k = 8
  · subst h8; simp [br]
  by_cases h9 : k = 9
  · subst h9; simp [br]
  simp [br, h1, h2, h3, h4, h5, h6, h7, h8, h9]
theorem bare_ok : ConOK Try.prog 25 bareC := by
  refine con_ok tab_ok (Γ := Γbare) consOK_nil (by kernel_rfl) Try.func25 (by kernel_rfl) ?_
  intro args out h
  obtain ⟨x, e, h1⟩ := conN_inv h
  clear h
  obtain ⟨c, x0⟩ := x
  subst e
  replace h1 : (some ⟨.tup [⟨CmdT, (bareS c).1⟩, ⟨.bool, (bareS c).2⟩], []⟩) = some out := h1
  injection h1 with h1
  subst h1
  exact ⟨by rw [mkArgs_len]; decide, bare_ex c⟩

def okNum (n : Int) : Bool := decide (0 ≤ n) && decide (n ≤ 1073741824)
/-- The contract of glacisref20.num. -/
def rnumC : Con := conN [(.v, .int .i64)] fun (n, _) => some ⟨.val ⟨.bool, okNum n⟩, []⟩
theorem rnumC_eq {n : Int} : rnumC [.val ⟨.int .i64, n⟩] = some ⟨.val ⟨.bool, okNum n⟩, []⟩ := conN_mk (ks := [(.v, .int .i64)]) (n, ())
def Γrnum : Cons := cons []
theorem rnum_ex (n : Int) : Ex tab Γrnum (Try.f26.body.getD .skip) (EndsF tab Try.f26.results.toList [.val ⟨.int .i64, n⟩] ⟨.val ⟨.bool, okNum n⟩, []⟩) (ini [.val ⟨.int .i64, n⟩]) := by
  simp only [Try.f26, Option.getD_some]
  simp (implicitDefEqProofs := false) (decide := true) (maxSteps := 4000000) [ini]
  refine br_dec (fun h => by simp [okNum, h]) (fun h => by simp [okNum, h])
theorem rnum_ok : ConOK Try.prog 26 rnumC := by
  refine con_ok tab_ok (Γ := Γrnum) consOK_nil (by kernel_rfl) Try.func26 (by kernel_rfl) ?_
  intro args out h
  obtain ⟨x, e, h1⟩ := conN_inv h
  clear h
  obtain ⟨n, x0⟩ := x
  subst e
  replace h1 : (some ⟨.val ⟨.bool, okNum n⟩, []⟩) = some out := h1
  injection h1 with h1
  subst h1
  exact ⟨by rw [mkArgs_len]; decide, rnum_ex n⟩

def nums (c : Cmd) : Bool := okNum c.2.1 && okNum c.2.2.1 && okNum c.2.2.2.2.2.1
def mayS (c : Cmd) : Bool :=
  (bareS c).2 && nums c && (decide (0 ≤ c.2.2.2.1) && decide (c.2.2.2.1 ≤ 9)) && (decide (0 ≤ c.2.2.2.2.1) && decide (c.2.2.2.2.1 ≤ 255)) && same CmdT (bareS c).1 c &&
    decide ((c.2.2.2.2.2.2.1.size : Int) ≤ 56) && decide ((c.2.2.2.2.2.2.2.1.size : Int) ≤ 56) && decide ((c.2.2.2.2.2.2.2.2.1.size : Int) ≤ 40)
def okTo (c : Cmd) : Nat → Bool
  | 0 => (bareS c).2
  | i + 1 => okTo c i && okNum ([c.2.1, c.2.2.1, c.2.2.2.2.2.1].getD i 0)
/-- The contract of frame.May. -/
def mayC : Con := conN [(.v, .prod (.int .i64) (.prod (.int .i64) (.prod (.int .i64) (.prod (.int .i64) (.prod (.int .i64) (.prod (.int .i64) (.prod .str (.prod .str (.prod .str .unit)))))))))] fun (c, _) => some ⟨.val ⟨.bool, mayS c⟩, []⟩
theorem mayC_eq {c : Ty.den (.prod (.int .i64) (.prod (.int .i64) (.prod (.int .i64) (.prod (.int .i64) (.prod (.int .i64) (.prod (.int .i64) (.prod .str (.prod .str (.prod .str .unit)))))))))} : mayC [.val ⟨.prod (.int .i64) (.prod (.int .i64) (.prod (.int .i64) (.prod (.int .i64) (.prod (.int .i64) (.prod (.int .i64) (.prod .str (.prod .str (.prod .str .unit)))))))), c⟩] = some ⟨.val ⟨.bool, mayS c⟩, []⟩ := conN_mk (ks := [(.v, .prod (.int .i64) (.prod (.int .i64) (.prod (.int .i64) (.prod (.int .i64) (.prod (.int .i64) (.prod (.int .i64) (.prod .str (.prod .str (.prod .str .unit)))))))))]) (c, ())
def Γmay : Cons := cons [(25, bareC)]
theorem may_ex (c : Ty.den (.prod (.int .i64) (.prod (.int .i64) (.prod (.int .i64) (.prod (.int .i64) (.prod (.int .i64) (.prod (.int .i64) (.prod .str (.prod .str (.prod .str .unit)))))))))) : Ex tab Γmay (Try.f13.body.getD .skip) (EndsF tab Try.f13.results.toList [.val ⟨.prod (.int .i64) (.prod (.int .i64) (.prod (.int .i64) (.prod (.int .i64) (.prod (.int .i64) (.prod (.int .i64) (.prod .str (.prod .str (.prod .str .unit)))))))), c⟩] ⟨.val ⟨.bool, mayS c⟩, []⟩) (ini [.val ⟨.prod (.int .i64) (.prod (.int .i64) (.prod (.int .i64) (.prod (.int .i64) (.prod (.int .i64) (.prod (.int .i64) (.prod .str (.prod .str (.prod .str .unit)))))))), c⟩]) := by
  have g_bare : Γmay 25 = some bareC := rfl
  simp only [Try.f13, Option.getD_some]
  simp (implicitDefEqProofs := false) (decide := true) (maxSteps := 4000000) [ini, g_bare, bareC_eq]
  intro m m1 m2
  refine ex_loopU (σ := Nat × Bool) [4, 6, 20, 21, 22, 23, 24, 25, 26, 27, 28, 29, 30, 31, 32, 33] (fun s => [(20, .val (.int .i64) (s.1 : Int)), (4, .val .bool s.2)])
    (fun s => s.1 ≤ 3 ∧ s.2 = okTo c s.1) (fun s => 3 - s.1) (0, _) ?_ (hc rfl (hc rfl hn)) ?_
  · exact ⟨by simp, rfl⟩
  rintro j ⟨i, ok⟩ ⟨hi, hok⟩
  simp only at hi hok
  subst hok
  simp (implicitDefEqProofs := false) (decide := true) [ini]
  have hs : ∀ i, okTo c (i + 1) = (okTo c i && okNum ([c.2.1, c.2.2.1, c.2.2.2.2.2.1][i]?.getD 0)) := fun i => by rw [okTo, List.getD_eq_getElem?_getD]
  refine br_dec (fun hlt => ⟨by omega, by omega, ?_⟩) (fun hge => ?_)
  · refine br_intro (fun h1 => br_dec (fun h2 => ⟨i + 1, ?_⟩) (fun h2 => ⟨i + 1, ⟨by omega, ?_⟩, by omega, w_nat rfl (by omega)⟩)) (fun h1 => ⟨i + 1, ⟨by omega, ?_⟩, by omega, w_nat rfl (by omega)⟩)
    · have e : okTo c (i + 1) = decide ([c.2.1, c.2.2.1, c.2.2.2.2.2.1][i]?.getD 0 ≤ 1073741824) := by rw [hs, h1, okNum, Bool.true_and, decide_eq_true h2, Bool.true_and]
      by_cases h3 : [c.2.1, c.2.2.1, c.2.2.2.2.2.1][i]?.getD 0 ≤ 1073741824
      · rw [decide_eq_true h3] at e
        exact .inr ⟨⟨by omega, e⟩, by omega, w_nat rfl (by omega), h3⟩
      · rw [decide_eq_false h3] at e
        exact .inl ⟨⟨by omega, e⟩, by omega, w_nat rfl (by omega), Int.not_le.1 h3⟩
    · have e : decide (0 ≤ [c.2.1, c.2.2.1, c.2.2.2.2.2.1][i]?.getD 0) = false := decide_eq_false h2
      rw [hs, okNum, e]; simp
    · rw [hs, h1]; rfl
  · obtain rfl : i = 3 := by omega
    have h3 : okTo c 3 = ((bareS c).2 && nums c) := by simp [okTo, nums, Bool.and_assoc]
    rw [h3]
    refine br_intro (fun h1 => br_intro (fun h4 => br_intro (fun h5 => br_intro (fun h6 => br_intro (fun h7 => br_intro (fun h8 => br_intro (fun h9 => br_intro (fun h10 => ?_) ?_) ?_) ?_) ?_) ?_) ?_) ?_) ?_
    · unfold mayS; rw [h1, h4, h5, h6, h7, h8, h9, h10]; rfl
    all_goals intro h
    all_goals unfold mayS
    all_goals clear hs h3
    all_goals simp only [*, Bool.and_false, Bool.false_and, Bool.true_and]
theorem may_ok : ConOK Try.prog 13 mayC := by
  refine con_ok tab_ok (Γ := Γmay) (consOK_cons bare_ok consOK_nil) (by kernel_rfl) Try.func13 (by kernel_rfl) ?_
  intro args out h
  obtain ⟨x, e, h1⟩ := conN_inv h
  clear h
  obtain ⟨c, x0⟩ := x
  subst e
  replace h1 : (some ⟨.val ⟨.bool, mayS c⟩, []⟩) = some out := h1
  injection h1 with h1
  subst h1
  exact ⟨by rw [mkArgs_len]; decide, may_ex c⟩
end Go.Proofs.Ytlckajldmooefaa
