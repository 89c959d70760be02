/- slot: what may be, what is put. -/
import Derived.Test.YtjhnbndfepnpmaaBlock2
set_option maxRecDepth 10000
set_option maxHeartbeats 1000000
set_option linter.unusedSimpArgs false
set_option linter.unusedVariables false
set_option pp.deepTerms.threshold 12
namespace Go.Proofs.Ytjhnbndfepnpmaa
open Go.Tm Go.IntWalk

abbrev SlT : Ty := .prod (.int .i64) (.prod (.int .i64) (.prod (.int .i64) (.prod (.int .i64) (.prod (.int .i64) .unit))))
abbrev Sl : Type := Int × Int × Int × Int × Int × Unit
def num1 (n : Int) : Bool := decide (0 ≤ n) && decide (n ≤ 1073741824)
def slL (e : Sl) : List Int := [e.1, e.2.1, e.2.2.1, e.2.2.2.1, e.2.2.2.2.1]
def maySl (e : Sl) : Bool := num1 e.1 && decide (1 ≤ e.1) && num1 e.2.1 && num1 e.2.2.1 && num1 e.2.2.2.1 && num1 e.2.2.2.2.1 && decide (e.2.2.2.2.1 ≤ 64)
theorem maySl_iff {e : Sl} : maySl e = true ↔ (1 ≤ e.1 ∧ e.1 ≤ 1073741824) ∧ (0 ≤ e.2.1 ∧ e.2.1 ≤ 1073741824) ∧ (0 ≤ e.2.2.1 ∧ e.2.2.1 ≤ 1073741824) ∧ (0 ≤ e.2.2.2.1 ∧ e.2.2.2.1 ≤ 1073741824) ∧ (0 ≤ e.2.2.2.2.1 ∧ e.2.2.2.2.1 ≤ 64) := by
  simp only [maySl, num1, Bool.and_eq_true, decide_eq_true_eq]
  omega
def fourL (e : Sl) : List Int := putS [] 4 [e.2.1, e.2.2.1, e.2.2.2.1, e.2.2.2.2.1]
def blkOf (e : Sl) : Blk := (5, e.1, strOf (fourL e), ())
def putSl (e : Sl) : ByteArray := if maySl e = true then putB (blkOf e) else no
theorem putSl_no {e : Sl} (h : maySl e = false) : putSl e = no := if_neg (by rw [h]; decide)
theorem putSl_yes {e : Sl} (h : maySl e = true) : putSl e = putB (blkOf e) := if_pos h
theorem fourL_eq (e : Sl) : fourL e = bytesN 4 e.2.1 ++ (bytesN 4 e.2.2.1 ++ (bytesN 4 e.2.2.2.1 ++ bytesN 4 e.2.2.2.2.1)) := by simp [fourL, putS]
theorem fourL_len (e : Sl) : (fourL e).length = 16 := by rw [fourL_eq]; simp [bytesN_len]
theorem isB_fourL (e : Sl) : isB (fourL e) := by
  rw [fourL_eq]
  exact isB_append.2 ⟨isB_bytesN _ _, isB_append.2 ⟨isB_bytesN _ _, isB_append.2 ⟨isB_bytesN _ _, isB_bytesN _ _⟩⟩⟩
theorem blkOf_may {e : Sl} (h : maySl e = true) : mayB (blkOf e) = true := by
  obtain ⟨h1, h2, h3, h4, h5⟩ := maySl_iff.1 h
  refine mayB_iff.2 ⟨show (1 : Int) ≤ 5 by decide, show (5 : Int) ≤ 5 by decide, ?_, h1.2, ?_⟩
  · show 0 ≤ e.1; omega
  · show (strOf (fourL e)).size ≤ 55
    rw [size_strOf, fourL_len]; decide
/-- The contract of glacisref1.num. -/
def numC : Con := conN [(.v, .int .i64)] fun (n, _) => some ⟨.val ⟨.bool, num1 n⟩, []⟩
theorem numC_eq {n : Int} : numC [.val ⟨.int .i64, n⟩] = some ⟨.val ⟨.bool, num1 n⟩, []⟩ := conN_mk (ks := [(.v, .int .i64)]) (n, ())
def Γnum : Cons := cons []
theorem num_ex (n : Int) : Ex tab Γnum (Try.f17.body.getD .skip) (EndsF tab Try.f17.results.toList [.val ⟨.int .i64, n⟩] ⟨.val ⟨.bool, num1 n⟩, []⟩) (ini [.val ⟨.int .i64, n⟩]) := by
  simp only [Try.f17, Option.getD_some]
  simp (implicitDefEqProofs := false) (decide := true) (maxSteps := 4000000) [ini]
  refine br_dec (fun h => ?_) fun h => ?_
  · rw [num1, decide_eq_true h, Bool.true_and]
  · rw [num1, decide_eq_false h, Bool.false_and]
theorem num_ok : ConOK Try.prog 17 numC := by
  refine con_ok tab_ok (Γ := Γnum) consOK_nil (by kernel_rfl) Try.func17 (by kernel_rfl) ?_
  intro args out h
  obtain ⟨x, e, h1⟩ := conN_inv h
  clear h
  obtain ⟨n, x0⟩ := x
  subst e
  replace h1 : (some ⟨.val ⟨.bool, num1 n⟩, []⟩) = some out := h1
  injection h1 with h1
  subst h1
  exact ⟨by rw [mkArgs_len]; decide, num_ex n⟩
/-- The contract of slot.May. -/
def smayC : Con := conN [(.v, .prod (.int .i64) (.prod (.int .i64) (.prod (.int .i64) (.prod (.int .i64) (.prod (.int .i64) .unit)))))] fun (e, _) => some ⟨.val ⟨.bool, maySl e⟩, []⟩
theorem smayC_eq {e : Ty.den (.prod (.int .i64) (.prod (.int .i64) (.prod (.int .i64) (.prod (.int .i64) (.prod (.int .i64) .unit)))))} : smayC [.val ⟨.prod (.int .i64) (.prod (.int .i64) (.prod (.int .i64) (.prod (.int .i64) (.prod (.int .i64) .unit)))), e⟩] = some ⟨.val ⟨.bool, maySl e⟩, []⟩ := conN_mk (ks := [(.v, .prod (.int .i64) (.prod (.int .i64) (.prod (.int .i64) (.prod (.int .i64) (.prod (.int .i64) .unit)))))]) (e, ())
def Γsmay : Cons := cons []
theorem smay_ex (e : Ty.den (.prod (.int .i64) (.prod (.int .i64) (.prod (.int .i64) (.prod (.int .i64) (.prod (.int .i64) .unit)))))) : Ex tab Γsmay (Try.f7.body.getD .skip) (EndsF tab Try.f7.results.toList [.val ⟨.prod (.int .i64) (.prod (.int .i64) (.prod (.int .i64) (.prod (.int .i64) (.prod (.int .i64) .unit)))), e⟩] ⟨.val ⟨.bool, maySl e⟩, []⟩) (ini [.val ⟨.prod (.int .i64) (.prod (.int .i64) (.prod (.int .i64) (.prod (.int .i64) (.prod (.int .i64) .unit)))), e⟩]) := by
  simp only [Try.f7, Option.getD_some]
  simp (implicitDefEqProofs := false) (decide := true) (maxSteps := 4000000) [ini]
  intro m m1
  refine ex_loopU (σ := Nat) [2, 4, 17, 18, 19, 20, 21, 22, 23, 24, 25, 26, 27] (fun s => [(17, .val (.int .i64) (s : Int))]) (fun s => s ≤ 5 ∧ ∀ k, k < s → num1 ((slL e).getD k 0) = true) (fun s => 5 - s) 0 ⟨by omega, fun k h => absurd h (Nat.not_lt_zero _)⟩ (hc rfl hn) ?_
  rintro j i ⟨hi, hk⟩
  simp (implicitDefEqProofs := false) (decide := true) [ini]
  have hd : (slL e)[i]?.getD 0 = (slL e).getD i 0 := (List.getD_eq_getElem?_getD).symm
  have bad : i < 5 → num1 ((slL e).getD i 0) = false → maySl e = false := fun hlt hb => by
    cases hm : maySl e with
    | false => rfl
    | true =>
      obtain ⟨h1, h2, h3, h4, h5⟩ := maySl_iff.1 hm
      have : num1 ((slL e).getD i 0) = true := by
        match i, hlt with
        | 0, _ => show num1 e.1 = true; rw [num1, decide_eq_true (by omega), decide_eq_true (by omega)]; rfl
        | 1, _ => show num1 e.2.1 = true; rw [num1, decide_eq_true h2.1, decide_eq_true h2.2]; rfl
        | 2, _ => show num1 e.2.2.1 = true; rw [num1, decide_eq_true h3.1, decide_eq_true h3.2]; rfl
        | 3, _ => show num1 e.2.2.2.1 = true; rw [num1, decide_eq_true h4.1, decide_eq_true h4.2]; rfl
        | 4, _ => show num1 e.2.2.2.2.1 = true; rw [num1, decide_eq_true h5.1, decide_eq_true (by omega)]; rfl
      rw [this] at hb; cases hb
  refine br_dec (fun hlt => ⟨hlt, by omega, br_dec (fun h => ?_) fun h => br_dec (fun h2 => ?_) fun h2 => ⟨i + 1, ⟨by omega, fun k hk2 => ?_⟩, by omega, w_nat rfl (by omega)⟩⟩) (fun hge => ?_)
  · have h : (slL e)[i]?.getD 0 < 0 := h
    rw [hd] at h
    exact bad (by omega) (by rw [num1, decide_eq_false (by omega), Bool.false_and])
  · have h2 : 1073741824 < (slL e)[i]?.getD 0 := h2
    rw [hd] at h2
    exact bad (by omega) (by rw [num1, decide_eq_false (p := (slL e).getD i 0 ≤ 1073741824) (by omega), Bool.and_false])
  · have h : ¬ (slL e)[i]?.getD 0 < 0 := h
    have h2 : ¬ 1073741824 < (slL e)[i]?.getD 0 := h2
    rw [hd] at h h2
    rcases Nat.lt_or_ge k i with h3 | h3
    · exact hk k h3
    · obtain rfl : k = i := by omega
      rw [num1, decide_eq_true (by omega), decide_eq_true (by omega)]; rfl
  · obtain rfl : i = 5 := by omega
    have k0 : num1 e.1 = true := hk 0 (by decide)
    have k1 : num1 e.2.1 = true := hk 1 (by decide)
    have k2 : num1 e.2.2.1 = true := hk 2 (by decide)
    have k3 : num1 e.2.2.2.1 = true := hk 3 (by decide)
    have k4 : num1 e.2.2.2.2.1 = true := hk 4 (by decide)
    have hx : maySl e = (num1 e.1 && decide (1 ≤ e.1) && num1 e.2.1 && num1 e.2.2.1 && num1 e.2.2.2.1 && num1 e.2.2.2.2.1 && decide (e.2.2.2.2.1 ≤ 64)) := rfl
    rw [hx, k0, k1, k2, k3, k4]
    refine br_dec (fun h => ?_) fun h => ?_
    · rw [decide_eq_true h]; rfl
    · rw [decide_eq_false h]; rfl
theorem smay_ok : ConOK Try.prog 7 smayC := by
  refine con_ok tab_ok (Γ := Γsmay) consOK_nil (by kernel_rfl) Try.func7 (by kernel_rfl) ?_
  intro args out h
  obtain ⟨x, e, h1⟩ := conN_inv h
  clear h
  obtain ⟨e, x0⟩ := x
  subst e
  replace h1 : (some ⟨.val ⟨.bool, maySl e⟩, []⟩) = some out := h1
  injection h1 with h1
  subst h1
  exact ⟨by rw [mkArgs_len]; decide, smay_ex e⟩
/-- The contract of glacisref1.MaySlot. -/
def rsmayC : Con := conN [(.v, .prod (.int .i64) (.prod (.int .i64) (.prod (.int .i64) (.prod (.int .i64) (.prod (.int .i64) .unit)))))] fun (e, _) => some ⟨.val ⟨.bool, maySl e⟩, []⟩
theorem rsmayC_eq {e : Ty.den (.prod (.int .i64) (.prod (.int .i64) (.prod (.int .i64) (.prod (.int .i64) (.prod (.int .i64) .unit)))))} : rsmayC [.val ⟨.prod (.int .i64) (.prod (.int .i64) (.prod (.int .i64) (.prod (.int .i64) (.prod (.int .i64) .unit)))), e⟩] = some ⟨.val ⟨.bool, maySl e⟩, []⟩ := conN_mk (ks := [(.v, .prod (.int .i64) (.prod (.int .i64) (.prod (.int .i64) (.prod (.int .i64) (.prod (.int .i64) .unit)))))]) (e, ())
def Γrsmay : Cons := cons [(17, numC)]
theorem rsmay_ex (e : Ty.den (.prod (.int .i64) (.prod (.int .i64) (.prod (.int .i64) (.prod (.int .i64) (.prod (.int .i64) .unit)))))) : Ex tab Γrsmay (Try.f8.body.getD .skip) (EndsF tab Try.f8.results.toList [.val ⟨.prod (.int .i64) (.prod (.int .i64) (.prod (.int .i64) (.prod (.int .i64) (.prod (.int .i64) .unit)))), e⟩] ⟨.val ⟨.bool, maySl e⟩, []⟩) (ini [.val ⟨.prod (.int .i64) (.prod (.int .i64) (.prod (.int .i64) (.prod (.int .i64) (.prod (.int .i64) .unit)))), e⟩]) := by
  have g_num : Γrsmay 17 = some numC := rfl
  simp only [Try.f8, Option.getD_some]
  simp (implicitDefEqProofs := false) (decide := true) (maxSteps := 4000000) [ini, g_num, numC_eq]
  have hx : maySl e = (num1 e.1 && decide (1 ≤ e.1) && num1 e.2.1 && num1 e.2.2.1 && num1 e.2.2.2.1 && num1 e.2.2.2.2.1 && decide (e.2.2.2.2.1 ≤ 64)) := rfl
  refine br_intro (fun h1 => br_intro (fun h2 => br_intro (fun h3 => br_intro (fun h4 => br_intro (fun h5 => br_intro (fun h6 => ?_) fun h6 => ?_) fun h5 => ?_) fun h4 => ?_) fun h3 => ?_) fun h2 => ?_) fun h1 => ?_
  · rw [hx, h1, h2, h3, h4, h5, h6]; rfl
  · rw [hx, h6]; simp only [Bool.and_false, Bool.false_and]
  · rw [hx, h5]; simp only [Bool.and_false, Bool.false_and]
  · rw [hx, h4]; simp only [Bool.and_false, Bool.false_and]
  · rw [hx, h3]; simp only [Bool.and_false, Bool.false_and]
  · rw [hx, h2]; simp only [Bool.and_false, Bool.false_and]
  · rw [hx, h1]; simp only [Bool.and_false, Bool.false_and]
theorem rsmay_ok : ConOK Try.prog 8 rsmayC := by
  refine con_ok tab_ok (Γ := Γrsmay) (consOK_cons num_ok consOK_nil) (by kernel_rfl) Try.func8 (by kernel_rfl) ?_
  intro args out h
  obtain ⟨x, e, h1⟩ := conN_inv h
  clear h
  obtain ⟨e, x0⟩ := x
  subst e
  replace h1 : (some ⟨.val ⟨.bool, maySl e⟩, []⟩) = some out := h1
  injection h1 with h1
  subst h1
  exact ⟨by rw [mkArgs_len]; decide, rsmay_ex e⟩
/-- The contract of slot.Put. -/
def sputC : Con := conN [(.v, .prod (.int .i64) (.prod (.int .i64) (.prod (.int .i64) (.prod (.int .i64) (.prod (.int .i64) .unit)))))] fun (e, _) => some ⟨.val ⟨.str, putSl e⟩, []⟩
theorem sputC_eq {e : Ty.den (.prod (.int .i64) (.prod (.int .i64) (.prod (.int .i64) (.prod (.int .i64) (.prod (.int .i64) .unit)))))} : sputC [.val ⟨.prod (.int .i64) (.prod (.int .i64) (.prod (.int .i64) (.prod (.int .i64) (.prod (.int .i64) .unit)))), e⟩] = some ⟨.val ⟨.str, putSl e⟩, []⟩ := conN_mk (ks := [(.v, .prod (.int .i64) (.prod (.int .i64) (.prod (.int .i64) (.prod (.int .i64) (.prod (.int .i64) .unit)))))]) (e, ())
def Γsput : Cons := cons [(7, smayC), (19, putC), (18, bputC)]
theorem sput_ex (e : Ty.den (.prod (.int .i64) (.prod (.int .i64) (.prod (.int .i64) (.prod (.int .i64) (.prod (.int .i64) .unit)))))) : Ex tab Γsput (Try.f9.body.getD .skip) (EndsF tab Try.f9.results.toList [.val ⟨.prod (.int .i64) (.prod (.int .i64) (.prod (.int .i64) (.prod (.int .i64) (.prod (.int .i64) .unit)))), e⟩] ⟨.val ⟨.str, putSl e⟩, []⟩) (ini [.val ⟨.prod (.int .i64) (.prod (.int .i64) (.prod (.int .i64) (.prod (.int .i64) (.prod (.int .i64) .unit)))), e⟩]) := by
  have g_smay : Γsput 7 = some smayC := rfl
  have g_put : Γsput 19 = some putC := rfl
  have g_bput : Γsput 18 = some bputC := rfl
  simp only [Try.f9, Option.getD_some]
  simp (implicitDefEqProofs := false) (decide := true) (maxSteps := 4000000) [ini, g_smay, smayC_eq, g_put, putC_eq, g_bput, bputC_eq]
  refine br_intro (fun h => (putSl_no (not_t h)).symm) fun h => ?_
  rw [putSl_yes (not_f h)]
  rfl
theorem sput_ok : ConOK Try.prog 9 sputC := by
  refine con_ok tab_ok (Γ := Γsput) (consOK_cons smay_ok (consOK_cons put_ok (consOK_cons bput_ok consOK_nil))) (by kernel_rfl) Try.func9 (by kernel_rfl) ?_
  intro args out h
  obtain ⟨x, e, h1⟩ := conN_inv h
  clear h
  obtain ⟨e, x0⟩ := x
  subst e
  replace h1 : (some ⟨.val ⟨.str, putSl e⟩, []⟩) = some out := h1
  injection h1 with h1
  subst h1
  exact ⟨by rw [mkArgs_len]; decide, sput_ex e⟩
/-- The contract of glacisref1.PutSlot. -/
def rsputC : Con := conN [(.v, .prod (.int .i64) (.prod (.int .i64) (.prod (.int .i64) (.prod (.int .i64) (.prod (.int .i64) .unit)))))] fun (e, _) => some ⟨.val ⟨.str, putSl e⟩, []⟩
theorem rsputC_eq {e : Ty.den (.prod (.int .i64) (.prod (.int .i64) (.prod (.int .i64) (.prod (.int .i64) (.prod (.int .i64) .unit)))))} : rsputC [.val ⟨.prod (.int .i64) (.prod (.int .i64) (.prod (.int .i64) (.prod (.int .i64) (.prod (.int .i64) .unit)))), e⟩] = some ⟨.val ⟨.str, putSl e⟩, []⟩ := conN_mk (ks := [(.v, .prod (.int .i64) (.prod (.int .i64) (.prod (.int .i64) (.prod (.int .i64) (.prod (.int .i64) .unit)))))]) (e, ())
def Γrsput : Cons := cons [(8, rsmayC), (20, rputC), (16, rbputC)]
theorem rsput_ex (e : Ty.den (.prod (.int .i64) (.prod (.int .i64) (.prod (.int .i64) (.prod (.int .i64) (.prod (.int .i64) .unit)))))) : Ex tab Γrsput (Try.f10.body.getD .skip) (EndsF tab Try.f10.results.toList [.val ⟨.prod (.int .i64) (.prod (.int .i64) (.prod (.int .i64) (.prod (.int .i64) (.prod (.int .i64) .unit)))), e⟩] ⟨.val ⟨.str, putSl e⟩, []⟩) (ini [.val ⟨.prod (.int .i64) (.prod (.int .i64) (.prod (.int .i64) (.prod (.int .i64) (.prod (.int .i64) .unit)))), e⟩]) := by
  have g_rsmay : Γrsput 8 = some rsmayC := rfl
  have g_rput : Γrsput 20 = some rputC := rfl
  have g_rbput : Γrsput 16 = some rbputC := rfl
  simp only [Try.f10, Option.getD_some]
  simp (implicitDefEqProofs := false) (decide := true) (maxSteps := 4000000) [ini, g_rsmay, rsmayC_eq, g_rput, rputC_eq, g_rbput, rbputC_eq]
  refine br_intro (fun h => (putSl_no (not_t h)).symm) fun h => ?_
  rw [putSl_yes (not_f h)]
  rfl
theorem rsput_ok : ConOK Try.prog 10 rsputC := by
  refine con_ok tab_ok (Γ := Γrsput) (consOK_cons rsmay_ok (consOK_cons rput_ok (consOK_cons rbput_ok consOK_nil))) (by kernel_rfl) Try.func10 (by kernel_rfl) ?_
  intro args out h
  obtain ⟨x, e, h1⟩ := conN_inv h
  clear h
  obtain ⟨e, x0⟩ := x
  subst e
  replace h1 : (some ⟨.val ⟨.str, putSl e⟩, []⟩) = some out := h1
  injection h1 with h1
  subst h1
  exact ⟨by rw [mkArgs_len]; decide, rsput_ex e⟩
end Go.Proofs.Ytjhnbndfepnpmaa
