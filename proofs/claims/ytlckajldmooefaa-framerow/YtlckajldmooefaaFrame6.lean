/- frame: what is taken. -/
import Derived.Test.YtlckajldmooefaaFrame5
set_option maxRecDepth 10000
set_option maxHeartbeats 1000000
set_option linter.unusedSimpArgs false
set_option linter.unusedVariables false
set_option pp.deepTerms.threshold 14
namespace Go.Proofs.Ytlckajldmooefaa
open Go.Tm Go.IntWalk Go.Crc

abbrev noCmd : Cmd := (0, 0, 0, 0, 0, 0, no, no, no, ())
/-- How many bytes the frame says it has. -/
def lenF (b : List Int) : Int := (takeS b 2).1 + 2
def rdF (b : List Int) : Cmd × Rd := cmdS (numS ((b.drop 2).take ((lenF b).toNat - 2), false, ()) 2).2
def takeF (b : List Int) (seq : Int) : Cmd × Int × Int :=
  if ((takeS b 2).2 = false ∨ (b.length : Int) < lenF b) then (noCmd, 0, 2) else
  if (rdF b).2.2.1 = true ∨ okF seq (rdF b).1 = false ∨ ¬ putF seq (rdF b).1 = b.take (lenF b).toNat then (noCmd, 0, 9) else
  ((rdF b).1, lenF b, 0)
theorem take2 {b : List Int} (h : isB b) : 0 ≤ (takeS b 2).1 ∧ (takeS b 2).1 < 65536 := by
  have hn := takeS_nat (nats_lt h) 2
  rw [ints_nats h] at hn
  rw [hn]
  split
  · simp
  · have := le_lt (take_lt (nats_lt h) (2 : Int).toNat)
    have h2 : ((nats b).take (2 : Int).toNat).length ≤ 2 := by rw [List.length_take]; exact Nat.min_le_left _ _
    have h3 : 256 ^ ((nats b).take (2 : Int).toNat).length ≤ 256 ^ 2 := Nat.pow_le_pow_right (by decide) h2
    simp only
    omega
theorem takeF_none {b : List Int} {seq : Int} (h : (takeS b 2).2 = false ∨ (b.length : Int) < lenF b) : takeF b seq = (noCmd, 0, 2) := if_pos h
theorem takeF_form {b : List Int} {seq : Int} (h : ¬ ((takeS b 2).2 = false ∨ (b.length : Int) < lenF b)) (h2 : (rdF b).2.2.1 = true ∨ okF seq (rdF b).1 = false ∨ ¬ putF seq (rdF b).1 = b.take (lenF b).toNat) : takeF b seq = (noCmd, 0, 9) := by
  rw [takeF, if_neg h, if_pos h2]
theorem takeF_ok {b : List Int} {seq : Int} (h : ¬ ((takeS b 2).2 = false ∨ (b.length : Int) < lenF b)) (h2 : ¬ ((rdF b).2.2.1 = true ∨ okF seq (rdF b).1 = false ∨ ¬ putF seq (rdF b).1 = b.take (lenF b).toNat)) : takeF b seq = ((rdF b).1, lenF b, 0) := by
  rw [takeF, if_neg h, if_neg h2]
/-- The contract of frame.Take. -/
def ftakeC : Con := conN [(.v, .slice (.int .u8)), (.v, .int .i64)] fun (b, seq, _) => if isB b then some ⟨.tup [⟨CmdT, (takeF b seq).1⟩, ⟨.int .i64, (takeF b seq).2.1⟩, ⟨.int .i64, (takeF b seq).2.2⟩], []⟩ else none
theorem ftakeC_eq {b : List Int} {seq : Int} : ftakeC [.val ⟨.slice (.int .u8), b⟩, .val ⟨.int .i64, seq⟩] = if isB b then some ⟨.tup [⟨CmdT, (takeF b seq).1⟩, ⟨.int .i64, (takeF b seq).2.1⟩, ⟨.int .i64, (takeF b seq).2.2⟩], []⟩ else none := conN_mk (ks := [(.v, .slice (.int .u8)), (.v, .int .i64)]) (b, seq, ())
def Γftake : Cons := cons [(27, takeC), (28, rnumRC), (29, cmdRC), (11, fputC), (30, equalC)]
theorem ftake_ex (b : List Int) (seq : Int) (hr : isB b) : Ex tab Γftake (Try.f15.body.getD .skip) (EndsF tab Try.f15.results.toList [.val ⟨.slice (.int .u8), b⟩, .val ⟨.int .i64, seq⟩] ⟨.tup [⟨CmdT, (takeF b seq).1⟩, ⟨.int .i64, (takeF b seq).2.1⟩, ⟨.int .i64, (takeF b seq).2.2⟩], []⟩) (ini [.val ⟨.slice (.int .u8), b⟩, .val ⟨.int .i64, seq⟩]) := by
  have g_take : Γftake 27 = some takeC := rfl
  have g_rnumR : Γftake 28 = some rnumRC := rfl
  have g_cmdR : Γftake 29 = some cmdRC := rfl
  have g_fput : Γftake 11 = some fputC := rfl
  have g_equal : Γftake 30 = some equalC := rfl
  simp only [Try.f15, Option.getD_some]
  simp (implicitDefEqProofs := false) (decide := true) (maxSteps := 4000000) [ini, g_take, takeC_eq, g_rnumR, rnumRC_eq, g_cmdR, cmdRC_eq, g_fput, fputC_eq, g_equal, equalC_eq]
  have t2 := take2 hr
  have w : IntKind.i64.wrap ((takeS b 2).1 + 2) = lenF b := i64_in _ (by omega)
  have ln : 2 ≤ lenF b := by unfold lenF; omega
  rw [w]
  refine br_intro (fun h => ?_) fun h1 hl => br_dec (fun h => ?_) fun h2 => ⟨⟨by omega, by omega⟩, ln, numS_B (isB_take (isB_drop hr _) _) _, ?_⟩
  · rw [takeF_none (.inl (not_t h))]; exact ⟨rfl, rfl, rfl⟩
  · rw [takeF_none (.inr h)]; exact ⟨rfl, rfl, rfl⟩
  have e0 : ¬ ((takeS b 2).2 = false ∨ (b.length : Int) < lenF b) := by
    rintro (h | h)
    · rw [not_f h1] at h; cases h
    · exact h2 h
  refine br_intro (fun h => ?_) fun h3 => br_intro (fun h => ?_) fun h4 => ⟨⟨by omega, by omega⟩, br_intro (fun h => ?_) fun h5 => ?_⟩
  · rw [takeF_form e0 (.inl h)]; exact ⟨rfl, rfl, rfl⟩
  · rw [takeF_form e0 (.inr (.inl (not_t h)))]; exact ⟨rfl, rfl, rfl⟩
  · rw [takeF_form e0 (.inr (.inr (of_decide_eq_false (not_t h))))]; exact ⟨rfl, rfl, rfl⟩
  · rw [takeF_ok e0 (by
      rintro (h | h | h)
      · exact Bool.noConfusion (h.symm.trans h3)
      · rw [show okF seq (rdF b).1 = true from not_f h4] at h; cases h
      · exact h (of_decide_eq_true (not_f h5)))]
    exact ⟨rfl, rfl, rfl⟩
theorem ftake_ok : ConOK Try.prog 15 ftakeC := by
  refine con_ok tab_ok (Γ := Γftake) (consOK_cons take_ok (consOK_cons rnumR_ok (consOK_cons cmdR_ok (consOK_cons fput_ok (consOK_cons equal_ok consOK_nil))))) (by kernel_rfl) Try.func15 (by kernel_rfl) ?_
  intro args out h
  obtain ⟨x, e, h1⟩ := conN_inv h
  clear h
  obtain ⟨b, seq, x0⟩ := x
  subst e
  replace h1 : (if isB b then some ⟨.tup [⟨CmdT, (takeF b seq).1⟩, ⟨.int .i64, (takeF b seq).2.1⟩, ⟨.int .i64, (takeF b seq).2.2⟩], []⟩ else none) = some out := h1
  split at h1
  case isFalse => cases h1
  rename_i hr
  injection h1 with h1
  subst h1
  exact ⟨by rw [mkArgs_len]; decide, ftake_ex b seq hr⟩
/-- The contract of glacisref20.TakeCmd. -/
def rftakeC : Con := conN [(.v, .slice (.int .u8)), (.v, .int .i64)] fun (b, seq, _) => if isB b then some ⟨.tup [⟨CmdT, (takeF b seq).1⟩, ⟨.int .i64, (takeF b seq).2.1⟩, ⟨.int .i64, (takeF b seq).2.2⟩], []⟩ else none
theorem rftakeC_eq {b : List Int} {seq : Int} : rftakeC [.val ⟨.slice (.int .u8), b⟩, .val ⟨.int .i64, seq⟩] = if isB b then some ⟨.tup [⟨CmdT, (takeF b seq).1⟩, ⟨.int .i64, (takeF b seq).2.1⟩, ⟨.int .i64, (takeF b seq).2.2⟩], []⟩ else none := conN_mk (ks := [(.v, .slice (.int .u8)), (.v, .int .i64)]) (b, seq, ())
def Γrftake : Cons := cons [(31, rtakeC), (32, rnumQC), (33, rtextQC), (12, rfputC)]
theorem rftake_ex (b : List Int) (seq : Int) (hr : isB b) : Ex tab Γrftake (Try.f16.body.getD .skip) (EndsF tab Try.f16.results.toList [.val ⟨.slice (.int .u8), b⟩, .val ⟨.int .i64, seq⟩] ⟨.tup [⟨CmdT, (takeF b seq).1⟩, ⟨.int .i64, (takeF b seq).2.1⟩, ⟨.int .i64, (takeF b seq).2.2⟩], []⟩) (ini [.val ⟨.slice (.int .u8), b⟩, .val ⟨.int .i64, seq⟩]) := by
  have g_rtake : Γrftake 31 = some rtakeC := rfl
  have g_rnumQ : Γrftake 32 = some rnumQC := rfl
  have g_rtextQ : Γrftake 33 = some rtextQC := rfl
  have g_rfput : Γrftake 12 = some rfputC := rfl
  simp only [Try.f16, Option.getD_some]
  simp (implicitDefEqProofs := false) (decide := true) (maxSteps := 4000000) [ini, g_rtake, rtakeC_eq, g_rnumQ, rnumQC_eq, g_rtextQ, rtextQC_eq, g_rfput, rfputC_eq]
  have t2 := take2 hr
  rw [rtakeS_eq hr]
  have w : IntKind.i64.wrap (2 + (takeS b 2).1) = lenF b := by rw [i64_in _ (by omega), lenF, Int.add_comm]
  have ln : 2 ≤ lenF b := by unfold lenF; omega
  rw [w]
  refine br_intro (fun h => ?_) fun h1 hl => ?_
  · rw [takeF_none (.inl (not_t h))]; exact ⟨rfl, rfl, rfl⟩
  have hl63 : b.length ≤ 9223372036854775807 := hl
  have w2 : IntKind.i64.wrap ((b.length : Int) - 2) = (b.length : Int) - 2 := i64_in _ (by omega)
  rw [w2]
  have b0 : isB ((b.drop 2).take ((lenF b).toNat - 2)) := isB_take (isB_drop hr _) _
  have b1 := numS_B (r := ((b.drop 2).take ((lenF b).toNat - 2), false, ())) b0 2
  have b2 := numS_B b1 1
  have b3 := numS_B b2 4
  have b4 := numS_B b3 4
  have b5 := numS_B b4 4
  have b6 := numS_B b5 1
  have b7 := numS_B b6 1
  have b8 := textR_B b7
  have b9 := textR_B b8
  have hlt : (b.length : Int) - 2 < (takeS b 2).1 ↔ (b.length : Int) < lenF b := by unfold lenF; omega
  refine br_dec (fun h => ?_) fun h2 => ⟨⟨by omega, by unfold lenF at *; omega⟩, ln, b0, b1, b2, b3, b4, b5, b6, b7, b8, b9, ?_⟩
  · rw [takeF_none (.inr (hlt.1 h))]; exact ⟨rfl, rfl, rfl⟩
  have e0 : ¬ ((takeS b 2).2 = false ∨ (b.length : Int) < lenF b) := by
    rintro (h | h)
    · rw [not_f h1] at h; cases h
    · exact h2 (hlt.2 h)
  have bp : isB (putF seq (rdF b).1) := by
    unfold putF
    split
    · exact isB_frameS _ _
    · exact isB_nil
  have bt : isB (b.take (lenF b).toNat) := isB_take hr _
  show br (rdF b).2.2.1 _ (br (!okF seq (rdF b).1) _ (_ ∧ br (!((strOf (putF seq (rdF b).1)).toList == (strOf (List.take (lenF b).toNat b)).toList)) _ ((rdF b).1 = _ ∧ _)))
  refine br_intro (fun h => ?_) fun h3 => br_intro (fun h => ?_) fun h4 => ⟨⟨by omega, by unfold lenF at *; omega⟩, br_intro (fun h => ?_) fun h5 => ?_⟩
  · rw [takeF_form e0 (.inl h)]; exact ⟨rfl, rfl, rfl⟩
  · rw [takeF_form e0 (.inr (.inl (not_t h)))]; exact ⟨rfl, rfl, rfl⟩
  · rw [takeF_form e0 (.inr (.inr fun e => by rw [e] at h; simp at h))]; exact ⟨rfl, rfl, rfl⟩
  · rw [takeF_ok e0 (by
      rintro (h | h | h)
      · exact Bool.noConfusion (h.symm.trans h3)
      · rw [show okF seq (rdF b).1 = true from not_f h4] at h; cases h
      · exact h (strOf_inj bp bt (ba_inj (by simpa using h5))))]
    exact ⟨rfl, rfl, rfl⟩
theorem rftake_ok : ConOK Try.prog 16 rftakeC := by
  refine con_ok tab_ok (Γ := Γrftake) (consOK_cons rtake_ok (consOK_cons rnumQ_ok (consOK_cons rtextQ_ok (consOK_cons rfput_ok consOK_nil)))) (by kernel_rfl) Try.func16 (by kernel_rfl) ?_
  intro args out h
  obtain ⟨x, e, h1⟩ := conN_inv h
  clear h
  obtain ⟨b, seq, x0⟩ := x
  subst e
  replace h1 : (if isB b then some ⟨.tup [⟨CmdT, (takeF b seq).1⟩, ⟨.int .i64, (takeF b seq).2.1⟩, ⟨.int .i64, (takeF b seq).2.2⟩], []⟩ else none) = some out := h1
  split at h1
  case isFalse => cases h1
  rename_i hr
  injection h1 with h1
  subst h1
  exact ⟨by rw [mkArgs_len]; decide, rftake_ex b seq hr⟩
end Go.Proofs.Ytlckajldmooefaa
