/- The reference's disks: are they the same? by the program. -/
import Derived.Test.YtcopoofbicgjbaaDiskR
set_option maxRecDepth 10000
set_option maxHeartbeats 1000000
set_option linter.unusedSimpArgs false
set_option linter.unusedVariables false
set_option pp.deepTerms.threshold 60
namespace Go.Proofs.Ytcopoofbicgjbaa
open Go.Tm Go.IntWalk
def sameT (a b : List ByteArray) : Bool := decide (a = b)
theorem sameT_no {a b : List ByteArray} (h : ¬ a = b) : sameT a b = false := decide_eq_false h
theorem sameT_yes {a b : List ByteArray} (h : a = b) : sameT a b = true := decide_eq_true h
/-- The contract of glacisref1.SameTexts. -/
def rsameT1C : Con := conN [(.v, .slice .str), (.v, .slice .str)] fun (a, b, _) => some ⟨.val ⟨.bool, sameT a b⟩, []⟩
theorem rsameT1C_eq {a : List ByteArray} {b : List ByteArray} : rsameT1C [.val ⟨.slice .str, a⟩, .val ⟨.slice .str, b⟩] = some ⟨.val ⟨.bool, sameT a b⟩, []⟩ := conN_mk (ks := [(.v, .slice .str), (.v, .slice .str)]) (a, b, ())
def ΓrsameT1 : Cons := cons []
theorem rsameT1_ex (a : List ByteArray) (b : List ByteArray) : Ex tab ΓrsameT1 (Try.f30.body.getD .skip) (EndsF tab Try.f30.results.toList [.val ⟨.slice .str, a⟩, .val ⟨.slice .str, b⟩] ⟨.val ⟨.bool, sameT a b⟩, []⟩) (ini [.val ⟨.slice .str, a⟩, .val ⟨.slice .str, b⟩]) := by
  simp only [Try.f30, Option.getD_some]
  simp (implicitDefEqProofs := false) (decide := true) (maxSteps := 4000000) [ini]
  intro _ _
  refine br_intro (fun h => sameT_no (fun e => by rw [e] at h; simp at h)) fun h => ?_
  have hl : a.length = b.length := Int.ofNat.inj (by simpa using h)
  refine ex_loopU (σ := Nat) [4, 5, 11, 12, 13, 14, 15, 16, 17, 18, 19, 20, 21, 22, 23, 24, 25] (fun s => [(5, .val (.int .i64) (s : Int))])
    (fun s => s ≤ a.length ∧ a.take s = b.take s) (fun s => a.length - s) 0 ⟨by simp, by simp⟩ (hc rfl hn) ?_
  rintro j i ⟨hi, he⟩
  simp (implicitDefEqProofs := false) (decide := true) (maxSteps := 4000000) [ini]
  have hl63 : a.length ≤ 9223372036854775807 := by assumption
  refine fun _ => br_dec (fun hlt => ⟨hlt, by omega, br_intro (fun h => ?_) fun h => ⟨i + 1, ⟨by omega, ?_⟩, by omega, w_nat rfl (by omega)⟩⟩) (fun hge => ?_)
  · exact sameT_no fun e => by rw [e] at h; simp at h
  · have h : a[i]?.getD ⟨#[]⟩ = b[i]?.getD ⟨#[]⟩ := ba_inj (by simpa using h)
    rw [List.getElem?_eq_getElem hlt, List.getElem?_eq_getElem (by omega)] at h
    rw [List.take_succ_eq_append_getElem hlt, List.take_succ_eq_append_getElem (by omega), he]
    simp only [Option.getD_some] at h
    rw [h]
  · obtain rfl : i = a.length := by omega
    rw [List.take_length, hl, List.take_length] at he
    exact sameT_yes he
theorem rsameT1_ok : ConOK Try.prog 30 rsameT1C := by
  refine con_ok tab_ok (Γ := ΓrsameT1) consOK_nil (by kernel_rfl) Try.func30 (by kernel_rfl) ?_
  intro args out h
  obtain ⟨x, e, h1⟩ := conN_inv h
  clear h
  obtain ⟨a, b, x0⟩ := x
  subst e
  replace h1 : (some ⟨.val ⟨.bool, sameT a b⟩, []⟩) = some out := h1
  injection h1 with h1
  subst h1
  exact ⟨by rw [mkArgs_len]; decide, rsameT1_ex a b⟩
def sameK (a b : Dk) : Bool := decide (a = b)
/-- The contract of glacisref1.Same. -/
def ksameC : Con := conN [(.v, DkT), (.v, DkT)] fun (a, b, _) => some ⟨.val ⟨.bool, sameK a b⟩, []⟩
theorem ksameC_eq {a : Ty.den (DkT)} {b : Ty.den (DkT)} : ksameC [.val ⟨DkT, a⟩, .val ⟨DkT, b⟩] = some ⟨.val ⟨.bool, sameK a b⟩, []⟩ := conN_mk (ks := [(.v, DkT), (.v, DkT)]) (a, b, ())
def Γksame : Cons := cons [(30, rsameT1C)]
theorem ksame_ex (a : Ty.den (DkT)) (b : Ty.den (DkT)) : Ex tab Γksame (Try.f20.body.getD .skip) (EndsF tab Try.f20.results.toList [.val ⟨DkT, a⟩, .val ⟨DkT, b⟩] ⟨.val ⟨.bool, sameK a b⟩, []⟩) (ini [.val ⟨DkT, a⟩, .val ⟨DkT, b⟩]) := by
  have g_rsameT1 : Γksame 30 = some rsameT1C := rfl
  simp only [Try.f20, Option.getD_some]
  simp (implicitDefEqProofs := false) (decide := true) (maxSteps := 4000000) [ini, g_rsameT1, rsameT1C_eq]
  intro m
  refine br_intro (fun h => ?_) fun h l1 l2 => br_intro (fun h2 => ?_) fun h2 => br_intro (fun h3 => ?_) fun h3 => br_intro (fun h4 => ?_) fun h4 => ?_
  · exact decide_eq_false fun e => by rw [e, sameT_yes rfl] at h; cases h
  · exact decide_eq_false fun e => by rw [e] at h2; simp at h2
  · exact decide_eq_false fun e => by rw [e] at h3; simp at h3
  · exact decide_eq_false fun e => by rw [e] at h4; simp at h4
  have hL : a.1 = b.1 := by
    have : sameT a.1 b.1 = true := by simpa using h
    exact of_decide_eq_true this
  have hl : List.length a.2.1 = List.length b.2.1 := Int.ofNat.inj (by simpa using h2)
  have hA : a.2.2.1 = b.2.2.1 := by simpa using h3
  have hD : a.2.2.2.1 = b.2.2.2.1 := by simpa using h4
  refine ex_loopU (σ := Nat) [4, 5, 35, 36, 37, 38, 39, 40, 41, 42, 43, 44, 45, 46, 47, 48, 49, 50, 51, 52] (fun s => [(5, .val (.int .i64) (s : Int))])
    (fun s => s ≤ List.length a.2.1 ∧ List.take s a.2.1 = List.take s b.2.1) (fun s => List.length a.2.1 - s) 0 ⟨Nat.zero_le _, rfl⟩ (hc rfl hn) ?_
  rintro j i ⟨hi, he⟩
  simp (implicitDefEqProofs := false) (decide := true) (maxSteps := 4000000) [ini, g_rsameT1, rsameT1C_eq]
  have hmx : maxLen = 9223372036854775807 := rfl
  refine fun _ => br_dec (fun hlt => ⟨hlt, by omega, br_intro (fun h => ?_) fun h => ⟨i + 1, ⟨hlt, ?_⟩, by omega, w_nat rfl (by omega)⟩⟩) (fun hge => ?_)
  · refine decide_eq_false fun e => ?_
    rw [e, same_refl (t := PutT) (by decide)] at h
    cases h
  · have h : same PutT (a.2.1[i]?.getD (0, { data := #[] }, ())) (b.2.1[i]?.getD (0, { data := #[] }, ())) = true := by simpa using h
    have h := same_eq (t := PutT) (by decide) h
    rw [List.getElem?_eq_getElem hlt, List.getElem?_eq_getElem (by omega)] at h
    rw [List.take_succ_eq_append_getElem hlt, List.take_succ_eq_append_getElem (by omega), he]
    simp only [Option.getD_some] at h
    rw [h]
  · obtain rfl : i = List.length a.2.1 := by omega
    rw [List.take_length, hl, List.take_length] at he
    exact decide_eq_true (Prod.ext hL (Prod.ext he (Prod.ext hA (Prod.ext hD rfl))))
theorem ksame_ok : ConOK Try.prog 20 ksameC := by
  refine con_ok tab_ok (Γ := Γksame) (consOK_cons rsameT1_ok consOK_nil) (by kernel_rfl) Try.func20 (by kernel_rfl) ?_
  intro args out h
  obtain ⟨x, e, h1⟩ := conN_inv h
  clear h
  obtain ⟨a, b, x0⟩ := x
  subst e
  replace h1 : (some ⟨.val ⟨.bool, sameK a b⟩, []⟩) = some out := h1
  injection h1 with h1
  subst h1
  exact ⟨by rw [mkArgs_len]; decide, ksame_ex a b⟩
end Go.Proofs.Ytcopoofbicgjbaa
