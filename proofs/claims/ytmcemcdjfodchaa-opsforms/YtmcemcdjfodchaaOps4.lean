/- ops: steps are compared. -/
import Derived.Test.YtmcemcdjfodchaaOps3
set_option maxRecDepth 10000
set_option maxHeartbeats 4000000
set_option linter.unusedSimpArgs false
set_option linter.unusedVariables false
set_option pp.deepTerms.threshold 12
namespace Go.Proofs.Ytmcemcdjfodchaa
open Go.Tm Go.IntWalk
def sameB (a b : List Bool) : Bool := decide (a = b)
theorem sameB_no {a b : List Bool} (h : ¬ a = b) : sameB a b = false := decide_eq_false h
theorem sameB_yes {a b : List Bool} (h : a = b) : sameB a b = true := decide_eq_true h
theorem sameB_is {a b : List Bool} (h : sameB a b = true) : a = b := of_decide_eq_true h
/-- The contract of slices.Equal[[]bool,bool]. -/
def oequalC : Con := conN [(.v, .slice .bool), (.v, .slice .bool)] fun (a, b, _) => some ⟨.val ⟨.bool, sameB a b⟩, []⟩
theorem oequalC_eq {a : List Bool} {b : List Bool} : oequalC [.val ⟨.slice .bool, a⟩, .val ⟨.slice .bool, b⟩] = some ⟨.val ⟨.bool, sameB a b⟩, []⟩ := conN_mk (ks := [(.v, .slice .bool), (.v, .slice .bool)]) (a, b, ())
def Γoequal : Cons := cons []
theorem oequal_ex (a : List Bool) (b : List Bool) : Ex tab Γoequal (Try.f39.body.getD .skip) (EndsF tab Try.f39.results.toList [.val ⟨.slice .bool, a⟩, .val ⟨.slice .bool, b⟩] ⟨.val ⟨.bool, sameB a b⟩, []⟩) (ini [.val ⟨.slice .bool, a⟩, .val ⟨.slice .bool, b⟩]) := by
  simp only [Try.f39, Option.getD_some]
  simp (implicitDefEqProofs := false) (decide := true) (maxSteps := 4000000) [ini]
  intro _ _
  refine br_intro (fun h => sameB_no (fun e => by rw [e] at h; simp at h)) fun h _ => ?_
  have hl : a.length = b.length := Int.ofNat.inj (by simpa using h)
  refine ex_loopU (σ := Nat) (Dn [4, 5] 13 13) (fun s => [(13, .val (.int .i64) (s : Int))])
    (fun s => s ≤ a.length ∧ a.take s = b.take s) (fun s => a.length - s) 0 ⟨by simp, by simp⟩ (hc rfl hn) ?_
  rintro j i ⟨hi, he⟩
  simp (implicitDefEqProofs := false) (decide := true) (maxSteps := 4000000) [ini]
  have hl63 : a.length ≤ 9223372036854775807 := by assumption
  refine br_dec (fun hlt => ⟨hlt, by omega, br_intro (fun h => ?_) fun h => ⟨i + 1, ⟨by omega, ?_⟩, by omega, w_nat rfl (by omega)⟩⟩) (fun hge => ?_)
  · exact sameB_no fun e => by rw [e] at h; simp at h
  · have h : a[i]?.getD false = b[i]?.getD false := by simpa using h
    rw [List.getElem?_eq_getElem hlt, List.getElem?_eq_getElem (by omega)] at h
    rw [List.take_succ_eq_append_getElem hlt, List.take_succ_eq_append_getElem (by omega), he]
    simp only [Option.getD_some] at h
    rw [h]
  · obtain rfl : i = a.length := by omega
    rw [List.take_length, hl, List.take_length] at he
    exact sameB_yes he
theorem oequal_ok : ConOK Try.prog 39 oequalC := by
  refine con_ok tab_ok (Γ := Γoequal) consOK_nil (by kernel_rfl) Try.func39 (by kernel_rfl) ?_
  intro args out h
  obtain ⟨x, e, h1⟩ := conN_inv h
  clear h
  obtain ⟨a, b, x0⟩ := x
  subst e
  replace h1 : (some ⟨.val ⟨.bool, sameB a b⟩, []⟩) = some out := h1
  injection h1 with h1
  subst h1
  exact ⟨by rw [mkArgs_len]; decide, oequal_ex a b⟩
instance decS1 : DecidableEq (ByteArray × List Bool × Unit) := inferInstance
instance decS2 : DecidableEq (ByteArray × ByteArray × ByteArray × List Bool × Unit) := inferInstance
instance decS3 : DecidableEq (Int × Int × ByteArray × ByteArray × ByteArray × List Bool × Unit) := inferInstance
instance decS : DecidableEq Step := inferInstanceAs (DecidableEq (Int × Int × Int × (Int × Int × ByteArray × ByteArray × ByteArray × List Bool × Unit)))
def sameS (a b : Step) : Bool := decide (a = b)
theorem sameS_no {a b : Step} (h : ¬ a = b) : sameS a b = false := decide_eq_false h
theorem sameS_is {a b : Step} (h : sameS a b = true) : a = b := of_decide_eq_true h
theorem sameS_self (a : Step) : sameS a a = true := decide_eq_true rfl
theorem sameS_yes {a b : Step} (h1 : (a.1 == b.1) = true) (h2 : (a.2.1 == b.2.1) = true) (h3 : (a.2.2.1 == b.2.2.1) = true) (h4 : (a.2.2.2.1 == b.2.2.2.1) = true) (h5 : (a.2.2.2.2.1 == b.2.2.2.2.1) = true)
    (h6 : (a.2.2.2.2.2.1.toList == b.2.2.2.2.2.1.toList) = true) (h7 : (a.2.2.2.2.2.2.1.toList == b.2.2.2.2.2.2.1.toList) = true) (h8 : (a.2.2.2.2.2.2.2.1.toList == b.2.2.2.2.2.2.2.1.toList) = true) (h9 : a.2.2.2.2.2.2.2.2.1 = b.2.2.2.2.2.2.2.2.1) : a = b := by
  obtain ⟨a1, a2, a3, a4, a5, a6, a7, a8, a9, a0⟩ := a
  obtain ⟨b1, b2, b3, b4, b5, b6, b7, b8, b9, b0⟩ := b
  simp only at h1 h2 h3 h4 h5 h6 h7 h8 h9
  rw [eq_of_beq h1, eq_of_beq h2, eq_of_beq h3, eq_of_beq h4, eq_of_beq h5, ba_inj (eq_of_beq h6), ba_inj (eq_of_beq h7), ba_inj (eq_of_beq h8), h9]
theorem sameS_eq {a b : Step} (h1 : (a.1 == b.1) = true) (h2 : (a.2.1 == b.2.1) = true) (h3 : (a.2.2.1 == b.2.2.1) = true) (h4 : (a.2.2.2.1 == b.2.2.2.1) = true) (h5 : (a.2.2.2.2.1 == b.2.2.2.2.1) = true)
    (h6 : (a.2.2.2.2.2.1.toList == b.2.2.2.2.2.1.toList) = true) (h7 : (a.2.2.2.2.2.2.1.toList == b.2.2.2.2.2.2.1.toList) = true) (h8 : (a.2.2.2.2.2.2.2.1.toList == b.2.2.2.2.2.2.2.1.toList) = true) : sameB a.2.2.2.2.2.2.2.2.1 b.2.2.2.2.2.2.2.2.1 = sameS a b := by
  unfold sameB sameS
  refine decide_eq_decide.2 ⟨sameS_yes h1 h2 h3 h4 h5 h6 h7 h8, fun e => by rw [e]⟩
/-- The contract of ops.same. -/
def osameC : Con := conN [(.v, .prod (.int .i64) (.prod (.int .i64) (.prod (.int .i64) (.prod (.int .i64) (.prod (.int .i64) (.prod .str (.prod .str (.prod .str (.prod (.slice .bool) .unit))))))))), (.v, .prod (.int .i64) (.prod (.int .i64) (.prod (.int .i64) (.prod (.int .i64) (.prod (.int .i64) (.prod .str (.prod .str (.prod .str (.prod (.slice .bool) .unit)))))))))] fun (a, b, _) => some ⟨.val ⟨.bool, sameS a b⟩, []⟩
theorem osameC_eq {a : Ty.den (.prod (.int .i64) (.prod (.int .i64) (.prod (.int .i64) (.prod (.int .i64) (.prod (.int .i64) (.prod .str (.prod .str (.prod .str (.prod (.slice .bool) .unit)))))))))} {b : Ty.den (.prod (.int .i64) (.prod (.int .i64) (.prod (.int .i64) (.prod (.int .i64) (.prod (.int .i64) (.prod .str (.prod .str (.prod .str (.prod (.slice .bool) .unit)))))))))} : osameC [.val ⟨.prod (.int .i64) (.prod (.int .i64) (.prod (.int .i64) (.prod (.int .i64) (.prod (.int .i64) (.prod .str (.prod .str (.prod .str (.prod (.slice .bool) .unit)))))))), a⟩, .val ⟨.prod (.int .i64) (.prod (.int .i64) (.prod (.int .i64) (.prod (.int .i64) (.prod (.int .i64) (.prod .str (.prod .str (.prod .str (.prod (.slice .bool) .unit)))))))), b⟩] = some ⟨.val ⟨.bool, sameS a b⟩, []⟩ := conN_mk (ks := [(.v, .prod (.int .i64) (.prod (.int .i64) (.prod (.int .i64) (.prod (.int .i64) (.prod (.int .i64) (.prod .str (.prod .str (.prod .str (.prod (.slice .bool) .unit))))))))), (.v, .prod (.int .i64) (.prod (.int .i64) (.prod (.int .i64) (.prod (.int .i64) (.prod (.int .i64) (.prod .str (.prod .str (.prod .str (.prod (.slice .bool) .unit)))))))))]) (a, b, ())
def Γosame : Cons := cons [(39, oequalC)]
theorem osame_ex (a : Ty.den (.prod (.int .i64) (.prod (.int .i64) (.prod (.int .i64) (.prod (.int .i64) (.prod (.int .i64) (.prod .str (.prod .str (.prod .str (.prod (.slice .bool) .unit)))))))))) (b : Ty.den (.prod (.int .i64) (.prod (.int .i64) (.prod (.int .i64) (.prod (.int .i64) (.prod (.int .i64) (.prod .str (.prod .str (.prod .str (.prod (.slice .bool) .unit)))))))))) : Ex tab Γosame (Try.f27.body.getD .skip) (EndsF tab Try.f27.results.toList [.val ⟨.prod (.int .i64) (.prod (.int .i64) (.prod (.int .i64) (.prod (.int .i64) (.prod (.int .i64) (.prod .str (.prod .str (.prod .str (.prod (.slice .bool) .unit)))))))), a⟩, .val ⟨.prod (.int .i64) (.prod (.int .i64) (.prod (.int .i64) (.prod (.int .i64) (.prod (.int .i64) (.prod .str (.prod .str (.prod .str (.prod (.slice .bool) .unit)))))))), b⟩] ⟨.val ⟨.bool, sameS a b⟩, []⟩) (ini [.val ⟨.prod (.int .i64) (.prod (.int .i64) (.prod (.int .i64) (.prod (.int .i64) (.prod (.int .i64) (.prod .str (.prod .str (.prod .str (.prod (.slice .bool) .unit)))))))), a⟩, .val ⟨.prod (.int .i64) (.prod (.int .i64) (.prod (.int .i64) (.prod (.int .i64) (.prod (.int .i64) (.prod .str (.prod .str (.prod .str (.prod (.slice .bool) .unit)))))))), b⟩]) := by
  have g_oequal : Γosame 39 = some oequalC := rfl
  simp only [Try.f27, Option.getD_some]
  simp (implicitDefEqProofs := false) (decide := true) (maxSteps := 4000000) [ini, g_oequal, oequalC_eq]
  refine br_intro (fun h1 => br_intro (fun h2 => br_intro (fun h3 => br_intro (fun h4 => br_intro (fun h5 => br_intro (fun h6 => br_intro (fun h7 => br_intro (fun h8 => sameS_eq h1 h2 h3 h4 h5 h6 h7 h8) fun h => ?_) fun h => ?_) fun h => ?_) fun h => ?_) fun h => ?_) fun h => ?_) fun h => ?_) fun h => ?_
  all_goals exact sameS_no fun e => by rw [e] at h; simp at h
theorem osame_ok : ConOK Try.prog 27 osameC := by
  refine con_ok tab_ok (Γ := Γosame) (consOK_cons oequal_ok consOK_nil) (by kernel_rfl) Try.func27 (by kernel_rfl) ?_
  intro args out h
  obtain ⟨x, e, h1⟩ := conN_inv h
  clear h
  obtain ⟨a, b, x0⟩ := x
  subst e
  replace h1 : (some ⟨.val ⟨.bool, sameS a b⟩, []⟩) = some out := h1
  injection h1 with h1
  subst h1
  exact ⟨by rw [mkArgs_len]; decide, osame_ex a b⟩
/-- The contract of glacisref20.SameStep. -/
def rsame1C : Con := conN [(.v, .prod (.int .i64) (.prod (.int .i64) (.prod (.int .i64) (.prod (.int .i64) (.prod (.int .i64) (.prod .str (.prod .str (.prod .str (.prod (.slice .bool) .unit))))))))), (.v, .prod (.int .i64) (.prod (.int .i64) (.prod (.int .i64) (.prod (.int .i64) (.prod (.int .i64) (.prod .str (.prod .str (.prod .str (.prod (.slice .bool) .unit)))))))))] fun (a, b, _) => some ⟨.val ⟨.bool, sameS a b⟩, []⟩
theorem rsame1C_eq {a : Ty.den (.prod (.int .i64) (.prod (.int .i64) (.prod (.int .i64) (.prod (.int .i64) (.prod (.int .i64) (.prod .str (.prod .str (.prod .str (.prod (.slice .bool) .unit)))))))))} {b : Ty.den (.prod (.int .i64) (.prod (.int .i64) (.prod (.int .i64) (.prod (.int .i64) (.prod (.int .i64) (.prod .str (.prod .str (.prod .str (.prod (.slice .bool) .unit)))))))))} : rsame1C [.val ⟨.prod (.int .i64) (.prod (.int .i64) (.prod (.int .i64) (.prod (.int .i64) (.prod (.int .i64) (.prod .str (.prod .str (.prod .str (.prod (.slice .bool) .unit)))))))), a⟩, .val ⟨.prod (.int .i64) (.prod (.int .i64) (.prod (.int .i64) (.prod (.int .i64) (.prod (.int .i64) (.prod .str (.prod .str (.prod .str (.prod (.slice .bool) .unit)))))))), b⟩] = some ⟨.val ⟨.bool, sameS a b⟩, []⟩ := conN_mk (ks := [(.v, .prod (.int .i64) (.prod (.int .i64) (.prod (.int .i64) (.prod (.int .i64) (.prod (.int .i64) (.prod .str (.prod .str (.prod .str (.prod (.slice .bool) .unit))))))))), (.v, .prod (.int .i64) (.prod (.int .i64) (.prod (.int .i64) (.prod (.int .i64) (.prod (.int .i64) (.prod .str (.prod .str (.prod .str (.prod (.slice .bool) .unit)))))))))]) (a, b, ())
def Γrsame1 : Cons := cons []
theorem rsame1_ex (a : Ty.den (.prod (.int .i64) (.prod (.int .i64) (.prod (.int .i64) (.prod (.int .i64) (.prod (.int .i64) (.prod .str (.prod .str (.prod .str (.prod (.slice .bool) .unit)))))))))) (b : Ty.den (.prod (.int .i64) (.prod (.int .i64) (.prod (.int .i64) (.prod (.int .i64) (.prod (.int .i64) (.prod .str (.prod .str (.prod .str (.prod (.slice .bool) .unit)))))))))) : Ex tab Γrsame1 (Try.f17.body.getD .skip) (EndsF tab Try.f17.results.toList [.val ⟨.prod (.int .i64) (.prod (.int .i64) (.prod (.int .i64) (.prod (.int .i64) (.prod (.int .i64) (.prod .str (.prod .str (.prod .str (.prod (.slice .bool) .unit)))))))), a⟩, .val ⟨.prod (.int .i64) (.prod (.int .i64) (.prod (.int .i64) (.prod (.int .i64) (.prod (.int .i64) (.prod .str (.prod .str (.prod .str (.prod (.slice .bool) .unit)))))))), b⟩] ⟨.val ⟨.bool, sameS a b⟩, []⟩) (ini [.val ⟨.prod (.int .i64) (.prod (.int .i64) (.prod (.int .i64) (.prod (.int .i64) (.prod (.int .i64) (.prod .str (.prod .str (.prod .str (.prod (.slice .bool) .unit)))))))), a⟩, .val ⟨.prod (.int .i64) (.prod (.int .i64) (.prod (.int .i64) (.prod (.int .i64) (.prod (.int .i64) (.prod .str (.prod .str (.prod .str (.prod (.slice .bool) .unit)))))))), b⟩]) := by
  simp only [Try.f17, Option.getD_some]
  simp (implicitDefEqProofs := false) (decide := true) (maxSteps := 4000000) [ini]
  intro _ _ _
  refine br_intro (fun h => sameS_no (fun e => by rw [e] at h; simp at h)) fun h => ?_
  have hl : a.2.2.2.2.2.2.2.2.1.length = b.2.2.2.2.2.2.2.2.1.length := Int.ofNat.inj (by simpa using h)
  refine ex_loopU (σ := Nat) (Dn [4, 5] 13 18) (fun s => [(5, .val (.int .i64) (s : Int))])
    (fun s => s ≤ a.2.2.2.2.2.2.2.2.1.length ∧ a.2.2.2.2.2.2.2.2.1.take s = b.2.2.2.2.2.2.2.2.1.take s) (fun s => a.2.2.2.2.2.2.2.2.1.length - s) 0 ⟨by simp, by simp⟩ (hc rfl hn) ?_
  rintro j i ⟨hi, he⟩
  simp (implicitDefEqProofs := false) (decide := true) (maxSteps := 4000000) [ini]
  have hl63 : a.2.2.2.2.2.2.2.2.1.length ≤ 9223372036854775807 := by assumption
  refine fun _ => br_dec (fun hlt => ⟨hlt, by omega, br_intro (fun h => ?_) fun h => ⟨i + 1, ⟨by omega, ?_⟩, by omega, w_nat rfl (by omega)⟩⟩) (fun hge => ?_)
  · exact sameS_no fun e => by rw [e] at h; simp at h
  · have h : a.2.2.2.2.2.2.2.2.1[i]?.getD false = b.2.2.2.2.2.2.2.2.1[i]?.getD false := by simpa using h
    rw [List.getElem?_eq_getElem hlt, List.getElem?_eq_getElem (by omega)] at h
    rw [List.take_succ_eq_append_getElem hlt, List.take_succ_eq_append_getElem (by omega), he]
    simp only [Option.getD_some] at h
    rw [h]
  · obtain rfl : i = a.2.2.2.2.2.2.2.2.1.length := by omega
    rw [List.take_length, hl, List.take_length] at he
    refine br_intro (fun h1 => br_intro (fun h2 => br_intro (fun h3 => br_intro (fun h4 => br_intro (fun h5 => br_intro (fun h6 => br_intro (fun h7 => ?_) fun h => ?_) fun h => ?_) fun h => ?_) fun h => ?_) fun h => ?_) fun h => ?_) fun h => ?_
    · cases h8 : (a.2.2.2.2.2.2.2.1.toList == b.2.2.2.2.2.2.2.1.toList) with
      | true => exact (decide_eq_true (sameS_yes h1 h2 h3 h4 h5 h6 h7 h8 he)).symm
      | false => exact (sameS_no fun e => by rw [e] at h8; simp at h8).symm
    all_goals exact sameS_no fun e => by rw [e] at h; simp at h
theorem rsame1_ok : ConOK Try.prog 17 rsame1C := by
  refine con_ok tab_ok (Γ := Γrsame1) consOK_nil (by kernel_rfl) Try.func17 (by kernel_rfl) ?_
  intro args out h
  obtain ⟨x, e, h1⟩ := conN_inv h
  clear h
  obtain ⟨a, b, x0⟩ := x
  subst e
  replace h1 : (some ⟨.val ⟨.bool, sameS a b⟩, []⟩) = some out := h1
  injection h1 with h1
  subst h1
  exact ⟨by rw [mkArgs_len]; decide, rsame1_ex a b⟩
def sameSs (l m : List Step) : Bool := decide (l = m)
theorem sameSs_no {a b : List Step} (h : ¬ a = b) : sameSs a b = false := decide_eq_false h
theorem sameSs_yes {a b : List Step} (h : a = b) : sameSs a b = true := decide_eq_true h
/-- The contract of glacisref20.SameSteps. -/
def rsamesC : Con := conN [(.v, .slice (.prod (.int .i64) (.prod (.int .i64) (.prod (.int .i64) (.prod (.int .i64) (.prod (.int .i64) (.prod .str (.prod .str (.prod .str (.prod (.slice .bool) .unit)))))))))), (.v, .slice (.prod (.int .i64) (.prod (.int .i64) (.prod (.int .i64) (.prod (.int .i64) (.prod (.int .i64) (.prod .str (.prod .str (.prod .str (.prod (.slice .bool) .unit))))))))))] fun (l, m, _) => some ⟨.val ⟨.bool, sameSs l m⟩, []⟩
theorem rsamesC_eq {l : List (Ty.den (.prod (.int .i64) (.prod (.int .i64) (.prod (.int .i64) (.prod (.int .i64) (.prod (.int .i64) (.prod .str (.prod .str (.prod .str (.prod (.slice .bool) .unit))))))))))} {m : List (Ty.den (.prod (.int .i64) (.prod (.int .i64) (.prod (.int .i64) (.prod (.int .i64) (.prod (.int .i64) (.prod .str (.prod .str (.prod .str (.prod (.slice .bool) .unit))))))))))} : rsamesC [.val ⟨.slice (.prod (.int .i64) (.prod (.int .i64) (.prod (.int .i64) (.prod (.int .i64) (.prod (.int .i64) (.prod .str (.prod .str (.prod .str (.prod (.slice .bool) .unit))))))))), l⟩, .val ⟨.slice (.prod (.int .i64) (.prod (.int .i64) (.prod (.int .i64) (.prod (.int .i64) (.prod (.int .i64) (.prod .str (.prod .str (.prod .str (.prod (.slice .bool) .unit))))))))), m⟩] = some ⟨.val ⟨.bool, sameSs l m⟩, []⟩ := conN_mk (ks := [(.v, .slice (.prod (.int .i64) (.prod (.int .i64) (.prod (.int .i64) (.prod (.int .i64) (.prod (.int .i64) (.prod .str (.prod .str (.prod .str (.prod (.slice .bool) .unit)))))))))), (.v, .slice (.prod (.int .i64) (.prod (.int .i64) (.prod (.int .i64) (.prod (.int .i64) (.prod (.int .i64) (.prod .str (.prod .str (.prod .str (.prod (.slice .bool) .unit))))))))))]) (l, m, ())
def Γrsames : Cons := cons [(17, rsame1C)]
theorem rsames_ex (l : List (Ty.den (.prod (.int .i64) (.prod (.int .i64) (.prod (.int .i64) (.prod (.int .i64) (.prod (.int .i64) (.prod .str (.prod .str (.prod .str (.prod (.slice .bool) .unit))))))))))) (m : List (Ty.den (.prod (.int .i64) (.prod (.int .i64) (.prod (.int .i64) (.prod (.int .i64) (.prod (.int .i64) (.prod .str (.prod .str (.prod .str (.prod (.slice .bool) .unit))))))))))) : Ex tab Γrsames (Try.f12.body.getD .skip) (EndsF tab Try.f12.results.toList [.val ⟨.slice (.prod (.int .i64) (.prod (.int .i64) (.prod (.int .i64) (.prod (.int .i64) (.prod (.int .i64) (.prod .str (.prod .str (.prod .str (.prod (.slice .bool) .unit))))))))), l⟩, .val ⟨.slice (.prod (.int .i64) (.prod (.int .i64) (.prod (.int .i64) (.prod (.int .i64) (.prod (.int .i64) (.prod .str (.prod .str (.prod .str (.prod (.slice .bool) .unit))))))))), m⟩] ⟨.val ⟨.bool, sameSs l m⟩, []⟩) (ini [.val ⟨.slice (.prod (.int .i64) (.prod (.int .i64) (.prod (.int .i64) (.prod (.int .i64) (.prod (.int .i64) (.prod .str (.prod .str (.prod .str (.prod (.slice .bool) .unit))))))))), l⟩, .val ⟨.slice (.prod (.int .i64) (.prod (.int .i64) (.prod (.int .i64) (.prod (.int .i64) (.prod (.int .i64) (.prod .str (.prod .str (.prod .str (.prod (.slice .bool) .unit))))))))), m⟩]) := by
  have g_rsame1 : Γrsames 17 = some rsame1C := rfl
  simp only [Try.f12, Option.getD_some]
  simp (implicitDefEqProofs := false) (decide := true) (maxSteps := 4000000) [ini, g_rsame1, rsame1C_eq]
  intro _ _
  refine br_intro (fun h => sameSs_no (fun e => by rw [e] at h; simp at h)) fun h => ?_
  have hl : l.length = m.length := Int.ofNat.inj (by simpa using h)
  refine ex_loopU (σ := Nat) (Dn [4, 5] 11 16) (fun s => [(5, .val (.int .i64) (s : Int))])
    (fun s => s ≤ l.length ∧ l.take s = m.take s) (fun s => l.length - s) 0 ⟨by simp, by simp⟩ (hc rfl hn) ?_
  rintro j i ⟨hi, he⟩
  simp (implicitDefEqProofs := false) (decide := true) (maxSteps := 4000000) [ini, g_rsame1, rsame1C_eq]
  have hl63 : l.length ≤ 9223372036854775807 := by assumption
  refine fun _ => br_dec (fun hlt => ⟨hlt, by omega, br_intro (fun h => ?_) fun h => ⟨i + 1, ⟨by omega, ?_⟩, by omega, w_nat rfl (by omega)⟩⟩) (fun hge => ?_)
  · refine sameSs_no fun e => ?_
    rw [e, sameS_self] at h
    cases h
  · have h := sameS_is (not_f h)
    rw [List.getElem?_eq_getElem hlt, List.getElem?_eq_getElem (by omega)] at h
    rw [List.take_succ_eq_append_getElem hlt, List.take_succ_eq_append_getElem (by omega), he]
    simp only [Option.getD_some] at h
    rw [h]
  · obtain rfl : i = l.length := by omega
    rw [List.take_length, hl, List.take_length] at he
    exact sameSs_yes he
theorem rsames_ok : ConOK Try.prog 12 rsamesC := by
  refine con_ok tab_ok (Γ := Γrsames) (consOK_cons rsame1_ok consOK_nil) (by kernel_rfl) Try.func12 (by kernel_rfl) ?_
  intro args out h
  obtain ⟨x, e, h1⟩ := conN_inv h
  clear h
  obtain ⟨l, m, x0⟩ := x
  subst e
  replace h1 : (some ⟨.val ⟨.bool, sameSs l m⟩, []⟩) = some out := h1
  injection h1 with h1
  subst h1
  exact ⟨by rw [mkArgs_len]; decide, rsames_ex l m⟩
end Go.Proofs.Ytmcemcdjfodchaa
