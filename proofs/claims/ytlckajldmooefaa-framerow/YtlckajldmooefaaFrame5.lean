/- frame: readers. -/
import Derived.Test.YtlckajldmooefaaFrame4
set_option maxRecDepth 10000
set_option maxHeartbeats 1000000
set_option linter.unusedSimpArgs false
set_option linter.unusedVariables false
set_option pp.deepTerms.threshold 10
namespace Go.Proofs.Ytlckajldmooefaa
open Go.Tm Go.IntWalk Go.Crc


abbrev RdT : Ty := .prod (.slice (.int .u8)) (.prod .bool .unit)
abbrev Rd : Type := List Int × Bool × Unit
def numS (r : Rd) (n : Int) : Int × Rd :=
  if (r.2.1 || !(takeS r.1 n).2) = true then (0, (r.1, true, ())) else ((takeS r.1 n).1, (r.1.drop n.toNat, false, ()))
def textR (r : Rd) : ByteArray × Rd :=
  if (r.2.1 || !(takeTextS r.1).2.2) = true then (no, (r.1, true, ())) else ((takeTextS r.1).1, (r.1.drop (takeTextS r.1).2.1.toNat, false, ()))
theorem numS_B {r : Rd} (h : isB r.1) (n : Int) : isB (numS r n).2.1 := by
  unfold numS
  split
  · exact h
  · exact isB_drop h _
theorem textR_B {r : Rd} (h : isB r.1) : isB (textR r).2.1 := by
  unfold textR
  split
  · exact h
  · exact isB_drop h _
theorem takeS_true {b : List Int} {n : Int} (h : (takeS b n).2 = true) : 1 ≤ n ∧ n ≤ 4 ∧ n ≤ b.length := by
  unfold takeS at h
  split at h
  · cases h
  · omega
theorem takeTextS_true {b : List Int} (h0 : 0 ≤ b.getD 0 0 ∧ b.getD 0 0 < 256) (h : (takeTextS b).2.2 = true) : 0 ≤ (takeTextS b).2.1 ∧ (takeTextS b).2.1 ≤ b.length := by
  have w : IntKind.i64.wrap (b.getD 0 0) = b.getD 0 0 := i64_in _ (by omega)
  unfold takeTextS at h ⊢
  split at h
  · cases h
  · rename_i hn
    rw [if_neg hn]
    rw [w] at hn
    simp only
    omega
theorem take_rest (l : List Int) (k : Nat) : List.take (l.length - k) (l.drop k) = l.drop k := List.take_of_length_le (by rw [List.length_drop]; exact Nat.le_refl _)
theorem numS_bad {r : Rd} {n : Int} (h : r.2.1 = true ∨ (takeS r.1 n).2 = false) : numS r n = (0, (r.1, true, ())) := by
  unfold numS
  rw [if_pos (by rcases h with h | h <;> rw [h] <;> simp)]
theorem numS_ok {r : Rd} {n : Int} (h : r.2.1 = false) (h2 : (takeS r.1 n).2 = true) : numS r n = ((takeS r.1 n).1, (r.1.drop n.toNat, false, ())) := by
  unfold numS
  rw [if_neg (by rw [h, h2]; decide)]
theorem textR_bad {r : Rd} (h : r.2.1 = true ∨ (takeTextS r.1).2.2 = false) : textR r = (no, (r.1, true, ())) := by
  unfold textR
  rw [if_pos (by rcases h with h | h <;> rw [h] <;> simp)]
theorem textR_ok {r : Rd} (h : r.2.1 = false) (h2 : (takeTextS r.1).2.2 = true) : textR r = ((takeTextS r.1).1, (r.1.drop (takeTextS r.1).2.1.toNat, false, ())) := by
  unfold textR
  rw [if_neg (by rw [h, h2]; decide)]
theorem not_t {b : Bool} (h : (!b) = true) : b = false := by simpa using h
theorem not_f {b : Bool} (h : (!b) = false) : b = true := by simpa using h
/-- The contract of (*frame.reader).num. -/
def rnumRC : Con := conN [(.o, .prod (.slice (.int .u8)) (.prod .bool .unit)), (.v, .int .i64)] fun (r, n, _) => some ⟨.val ⟨.int .i64, (numS r n).1⟩, [⟨RdT, (numS r n).2⟩]⟩
theorem rnumRC_eq {r : Ty.den (.prod (.slice (.int .u8)) (.prod .bool .unit))} {n : Int} : rnumRC [.obj ⟨.prod (.slice (.int .u8)) (.prod .bool .unit), r⟩, .val ⟨.int .i64, n⟩] = some ⟨.val ⟨.int .i64, (numS r n).1⟩, [⟨RdT, (numS r n).2⟩]⟩ := conN_mk (ks := [(.o, .prod (.slice (.int .u8)) (.prod .bool .unit)), (.v, .int .i64)]) (r, n, ())
def ΓrnumR : Cons := cons [(27, takeC)]
theorem rnumR_ex (r : Ty.den (.prod (.slice (.int .u8)) (.prod .bool .unit))) (n : Int) : Ex tab ΓrnumR (Try.f28.body.getD .skip) (EndsF tab Try.f28.results.toList [.obj ⟨.prod (.slice (.int .u8)) (.prod .bool .unit), r⟩, .val ⟨.int .i64, n⟩] ⟨.val ⟨.int .i64, (numS r n).1⟩, [⟨RdT, (numS r n).2⟩]⟩) (ini [.obj ⟨.prod (.slice (.int .u8)) (.prod .bool .unit), r⟩, .val ⟨.int .i64, n⟩]) := by
  have g_take : ΓrnumR 27 = some takeC := rfl
  simp only [Try.f28, Option.getD_some]
  simp (implicitDefEqProofs := false) (decide := true) (maxSteps := 4000000) [ini, g_take, takeC_eq]
  refine br_intro (fun h => ?_) fun h1 => br_intro (fun h => ?_) fun h2 => ?_
  · rw [numS_bad (.inl h)]; exact ⟨rfl, rfl⟩
  · rw [numS_bad (.inr (not_t h)), not_t h]; exact ⟨rfl, rfl⟩
  · have h2 := not_f h2
    have := takeS_true h2
    rw [numS_ok h1 h2, take_rest, h2]
    exact ⟨⟨by omega, this.2.2⟩, rfl, rfl⟩
theorem rnumR_ok : ConOK Try.prog 28 rnumRC := by
  refine con_ok tab_ok (Γ := ΓrnumR) (consOK_cons take_ok consOK_nil) (by kernel_rfl) Try.func28 (by kernel_rfl) ?_
  intro args out h
  obtain ⟨x, e, h1⟩ := conN_inv h
  clear h
  obtain ⟨r, n, x0⟩ := x
  subst e
  replace h1 : (some ⟨.val ⟨.int .i64, (numS r n).1⟩, [⟨RdT, (numS r n).2⟩]⟩) = some out := h1
  injection h1 with h1
  subst h1
  exact ⟨by rw [mkArgs_len]; decide, rnumR_ex r n⟩
/-- The contract of (*frame.reader).text. -/
def rtextRC : Con := conN [(.o, .prod (.slice (.int .u8)) (.prod .bool .unit))] fun (r, _) => if isB r.1 then some ⟨.val ⟨.str, (textR r).1⟩, [⟨RdT, (textR r).2⟩]⟩ else none
theorem rtextRC_eq {r : Ty.den (.prod (.slice (.int .u8)) (.prod .bool .unit))} : rtextRC [.obj ⟨.prod (.slice (.int .u8)) (.prod .bool .unit), r⟩] = if isB r.1 then some ⟨.val ⟨.str, (textR r).1⟩, [⟨RdT, (textR r).2⟩]⟩ else none := conN_mk (ks := [(.o, .prod (.slice (.int .u8)) (.prod .bool .unit))]) (r, ())
def ΓrtextR : Cons := cons [(41, takeTextC)]
theorem rtextR_ex (r : Ty.den (.prod (.slice (.int .u8)) (.prod .bool .unit))) (hr : isB r.1) : Ex tab ΓrtextR (Try.f37.body.getD .skip) (EndsF tab Try.f37.results.toList [.obj ⟨.prod (.slice (.int .u8)) (.prod .bool .unit), r⟩] ⟨.val ⟨.str, (textR r).1⟩, [⟨RdT, (textR r).2⟩]⟩) (ini [.obj ⟨.prod (.slice (.int .u8)) (.prod .bool .unit), r⟩]) := by
  have g_takeText : ΓrtextR 41 = some takeTextC := rfl
  simp only [Try.f37, Option.getD_some]
  simp (implicitDefEqProofs := false) (decide := true) (maxSteps := 4000000) [ini, g_takeText, takeTextC_eq]
  have g0 := isB_getD hr 0
  refine ⟨by rw [← List.getD_eq_getElem?_getD]; exact g0, br_intro (fun h => ?_) fun h1 => br_intro (fun h => ?_) fun h2 => ?_⟩
  · rw [textR_bad (.inl h)]; exact ⟨rfl, rfl⟩
  · rw [textR_bad (.inr (not_t h)), not_t h]; exact ⟨rfl, rfl⟩
  · have h2 := not_f h2
    have := takeTextS_true g0 h2
    rw [textR_ok h1 h2, take_rest, h2]
    exact ⟨this, rfl, rfl⟩
theorem rtextR_ok : ConOK Try.prog 37 rtextRC := by
  refine con_ok tab_ok (Γ := ΓrtextR) (consOK_cons takeText_ok consOK_nil) (by kernel_rfl) Try.func37 (by kernel_rfl) ?_
  intro args out h
  obtain ⟨x, e, h1⟩ := conN_inv h
  clear h
  obtain ⟨r, x0⟩ := x
  subst e
  replace h1 : (if isB r.1 then some ⟨.val ⟨.str, (textR r).1⟩, [⟨RdT, (textR r).2⟩]⟩ else none) = some out := h1
  split at h1
  case isFalse => cases h1
  rename_i hr
  injection h1 with h1
  subst h1
  exact ⟨by rw [mkArgs_len]; decide, rtextR_ex r hr⟩
/-- The contract of (*glacisref1.Reader).Num. -/
def rnumQC : Con := conN [(.o, .prod (.slice (.int .u8)) (.prod .bool .unit)), (.v, .int .i64)] fun (r, n, _) => if isB r.1 then some ⟨.val ⟨.int .i64, (numS r n).1⟩, [⟨RdT, (numS r n).2⟩]⟩ else none
theorem rnumQC_eq {r : Ty.den (.prod (.slice (.int .u8)) (.prod .bool .unit))} {n : Int} : rnumQC [.obj ⟨.prod (.slice (.int .u8)) (.prod .bool .unit), r⟩, .val ⟨.int .i64, n⟩] = if isB r.1 then some ⟨.val ⟨.int .i64, (numS r n).1⟩, [⟨RdT, (numS r n).2⟩]⟩ else none := conN_mk (ks := [(.o, .prod (.slice (.int .u8)) (.prod .bool .unit)), (.v, .int .i64)]) (r, n, ())
def ΓrnumQ : Cons := cons [(31, rtakeC)]
theorem rnumQ_ex (r : Ty.den (.prod (.slice (.int .u8)) (.prod .bool .unit))) (n : Int) (hr : isB r.1) : Ex tab ΓrnumQ (Try.f32.body.getD .skip) (EndsF tab Try.f32.results.toList [.obj ⟨.prod (.slice (.int .u8)) (.prod .bool .unit), r⟩, .val ⟨.int .i64, n⟩] ⟨.val ⟨.int .i64, (numS r n).1⟩, [⟨RdT, (numS r n).2⟩]⟩) (ini [.obj ⟨.prod (.slice (.int .u8)) (.prod .bool .unit), r⟩, .val ⟨.int .i64, n⟩]) := by
  have g_rtake : ΓrnumQ 31 = some rtakeC := rfl
  simp only [Try.f32, Option.getD_some]
  simp (implicitDefEqProofs := false) (decide := true) (maxSteps := 4000000) [ini, g_rtake, rtakeC_eq]
  rw [rtakeS_eq hr]
  refine br_intro (fun h => ?_) fun h2 => br_intro (fun h => ?_) fun h1 => ?_
  · rw [numS_bad (.inr (not_t h))]; exact ⟨rfl, rfl⟩
  · rw [numS_bad (.inl h)]
    refine ⟨rfl, ?_⟩
    show ((r.1, r.2.1, ()) : Rd) = _
    rw [h]
  · have h2 := not_f h2
    have := takeS_true h2
    rw [numS_ok h1 h2, take_rest]
    refine ⟨⟨by omega, this.2.2⟩, rfl, ?_⟩
    show (_, r.2.1, ()) = _
    rw [h1]
theorem rnumQ_ok : ConOK Try.prog 32 rnumQC := by
  refine con_ok tab_ok (Γ := ΓrnumQ) (consOK_cons rtake_ok consOK_nil) (by kernel_rfl) Try.func32 (by kernel_rfl) ?_
  intro args out h
  obtain ⟨x, e, h1⟩ := conN_inv h
  clear h
  obtain ⟨r, n, x0⟩ := x
  subst e
  replace h1 : (if isB r.1 then some ⟨.val ⟨.int .i64, (numS r n).1⟩, [⟨RdT, (numS r n).2⟩]⟩ else none) = some out := h1
  split at h1
  case isFalse => cases h1
  rename_i hr
  injection h1 with h1
  subst h1
  exact ⟨by rw [mkArgs_len]; decide, rnumQ_ex r n hr⟩
/-- The contract of (*glacisref1.Reader).Text. -/
def rtextQC : Con := conN [(.o, .prod (.slice (.int .u8)) (.prod .bool .unit))] fun (r, _) => if isB r.1 then some ⟨.val ⟨.str, (textR r).1⟩, [⟨RdT, (textR r).2⟩]⟩ else none
theorem rtextQC_eq {r : Ty.den (.prod (.slice (.int .u8)) (.prod .bool .unit))} : rtextQC [.obj ⟨.prod (.slice (.int .u8)) (.prod .bool .unit), r⟩] = if isB r.1 then some ⟨.val ⟨.str, (textR r).1⟩, [⟨RdT, (textR r).2⟩]⟩ else none := conN_mk (ks := [(.o, .prod (.slice (.int .u8)) (.prod .bool .unit))]) (r, ())
def ΓrtextQ : Cons := cons [(38, rtakeTextC)]
theorem rtextQ_ex (r : Ty.den (.prod (.slice (.int .u8)) (.prod .bool .unit))) (hr : isB r.1) : Ex tab ΓrtextQ (Try.f33.body.getD .skip) (EndsF tab Try.f33.results.toList [.obj ⟨.prod (.slice (.int .u8)) (.prod .bool .unit), r⟩] ⟨.val ⟨.str, (textR r).1⟩, [⟨RdT, (textR r).2⟩]⟩) (ini [.obj ⟨.prod (.slice (.int .u8)) (.prod .bool .unit), r⟩]) := by
  have g_rtakeText : ΓrtextQ 38 = some rtakeTextC := rfl
  simp only [Try.f33, Option.getD_some]
  simp (implicitDefEqProofs := false) (decide := true) (maxSteps := 4000000) [ini, g_rtakeText, rtakeTextC_eq]
  have g0 := isB_getD hr 0
  refine ⟨by rw [← List.getD_eq_getElem?_getD]; exact g0, br_intro (fun h => ?_) fun h2 => br_intro (fun h => ?_) fun h1 => ?_⟩
  · rw [textR_bad (.inr (not_t h))]; exact ⟨rfl, rfl⟩
  · rw [textR_bad (.inl h)]
    refine ⟨rfl, ?_⟩
    show ((r.1, r.2.1, ()) : Rd) = _
    rw [h]
  · have h2 := not_f h2
    have := takeTextS_true g0 h2
    rw [textR_ok h1 h2, take_rest]
    refine ⟨this, rfl, ?_⟩
    show (_, r.2.1, ()) = _
    rw [h1]
theorem rtextQ_ok : ConOK Try.prog 33 rtextQC := by
  refine con_ok tab_ok (Γ := ΓrtextQ) (consOK_cons rtakeText_ok consOK_nil) (by kernel_rfl) Try.func33 (by kernel_rfl) ?_
  intro args out h
  obtain ⟨x, e, h1⟩ := conN_inv h
  clear h
  obtain ⟨r, x0⟩ := x
  subst e
  replace h1 : (if isB r.1 then some ⟨.val ⟨.str, (textR r).1⟩, [⟨RdT, (textR r).2⟩]⟩ else none) = some out := h1
  split at h1
  case isFalse => cases h1
  rename_i hr
  injection h1 with h1
  subst h1
  exact ⟨by rw [mkArgs_len]; decide, rtextQ_ex r hr⟩
def cmdS (r : Rd) : Cmd × Rd :=
  let k := numS r 1
  let b := numS k.2 4
  let u := numS b.2 4
  let o := numS u.2 4
  let i := numS o.2 1
  let m := numS i.2 1
  let f := textR m.2
  let t := textR f.2
  let x := textR t.2
  ((k.1, b.1, u.1, i.1, m.1, o.1, f.1, t.1, x.1, ()), x.2)
/-- The contract of (*frame.reader).cmd. -/
def cmdRC : Con := conN [(.o, .prod (.slice (.int .u8)) (.prod .bool .unit))] fun (r, _) => if isB r.1 then some ⟨.val ⟨CmdT, (cmdS r).1⟩, [⟨RdT, (cmdS r).2⟩]⟩ else none
theorem cmdRC_eq {r : Ty.den (.prod (.slice (.int .u8)) (.prod .bool .unit))} : cmdRC [.obj ⟨.prod (.slice (.int .u8)) (.prod .bool .unit), r⟩] = if isB r.1 then some ⟨.val ⟨CmdT, (cmdS r).1⟩, [⟨RdT, (cmdS r).2⟩]⟩ else none := conN_mk (ks := [(.o, .prod (.slice (.int .u8)) (.prod .bool .unit))]) (r, ())
def ΓcmdR : Cons := cons [(28, rnumRC), (37, rtextRC)]
theorem cmdR_ex (r : Ty.den (.prod (.slice (.int .u8)) (.prod .bool .unit))) (hr : isB r.1) : Ex tab ΓcmdR (Try.f29.body.getD .skip) (EndsF tab Try.f29.results.toList [.obj ⟨.prod (.slice (.int .u8)) (.prod .bool .unit), r⟩] ⟨.val ⟨CmdT, (cmdS r).1⟩, [⟨RdT, (cmdS r).2⟩]⟩) (ini [.obj ⟨.prod (.slice (.int .u8)) (.prod .bool .unit), r⟩]) := by
  have g_rnumR : ΓcmdR 28 = some rnumRC := rfl
  have g_rtextR : ΓcmdR 37 = some rtextRC := rfl
  simp only [Try.f29, Option.getD_some]
  simp (implicitDefEqProofs := false) (decide := true) (maxSteps := 4000000) [ini, g_rnumR, rnumRC_eq, g_rtextR, rtextRC_eq]
  have b1 := numS_B hr 1
  have b2 := numS_B b1 4
  have b3 := numS_B b2 4
  have b4 := numS_B b3 4
  have b5 := numS_B b4 1
  have b6 := numS_B b5 1
  have b7 := textR_B b6
  have b8 := textR_B b7
  exact ⟨b6, b7, b8, rfl, rfl⟩
theorem cmdR_ok : ConOK Try.prog 29 cmdRC := by
  refine con_ok tab_ok (Γ := ΓcmdR) (consOK_cons rnumR_ok (consOK_cons rtextR_ok consOK_nil)) (by kernel_rfl) Try.func29 (by kernel_rfl) ?_
  intro args out h
  obtain ⟨x, e, h1⟩ := conN_inv h
  clear h
  obtain ⟨r, x0⟩ := x
  subst e
  replace h1 : (if isB r.1 then some ⟨.val ⟨CmdT, (cmdS r).1⟩, [⟨RdT, (cmdS r).2⟩]⟩ else none) = some out := h1
  split at h1
  case isFalse => cases h1
  rename_i hr
  injection h1 with h1
  subst h1
  exact ⟨by rw [mkArgs_len]; decide, cmdR_ex r hr⟩
def eqS (a b : List Int) : Bool := decide (a = b)
theorem eqS_no {a b : List Int} (h : ¬ a = b) : eqS a b = false := decide_eq_false h
theorem eqS_yes {a b : List Int} (h : a = b) : eqS a b = true := decide_eq_true h
/-- The contract of slices.Equal[[]byte,byte]. -/
def equalC : Con := conN [(.v, .slice (.int .u8)), (.v, .slice (.int .u8))] fun (a, b, _) => some ⟨.val ⟨.bool, eqS a b⟩, []⟩
theorem equalC_eq {a : List Int} {b : List Int} : equalC [.val ⟨.slice (.int .u8), a⟩, .val ⟨.slice (.int .u8), b⟩] = some ⟨.val ⟨.bool, eqS a b⟩, []⟩ := conN_mk (ks := [(.v, .slice (.int .u8)), (.v, .slice (.int .u8))]) (a, b, ())
def Γequal : Cons := cons []
theorem equal_ex (a : List Int) (b : List Int) : Ex tab Γequal (Try.f30.body.getD .skip) (EndsF tab Try.f30.results.toList [.val ⟨.slice (.int .u8), a⟩, .val ⟨.slice (.int .u8), b⟩] ⟨.val ⟨.bool, eqS a b⟩, []⟩) (ini [.val ⟨.slice (.int .u8), a⟩, .val ⟨.slice (.int .u8), b⟩]) := by
  simp only [Try.f30, Option.getD_some]
  simp (implicitDefEqProofs := false) (decide := true) (maxSteps := 4000000) [ini]
  intro _ _
  refine br_intro (fun h => eqS_no (fun e => by rw [e] at h; simp at h)) fun h _ => ?_
  have hl : a.length = b.length := Int.ofNat.inj (by simpa using h)
  refine ex_loopU (σ := Nat) [4, 5, 13, 14, 15, 16, 17, 18, 19, 20, 21, 22, 23, 24, 25] (fun s => [(13, .val (.int .i64) (s : Int))])
    (fun s => s ≤ a.length ∧ a.take s = b.take s) (fun s => a.length - s) 0 ⟨by simp, by simp⟩ (hc rfl hn) ?_
  rintro j i ⟨hi, he⟩
  simp (implicitDefEqProofs := false) (decide := true) [ini]
  have hl63 : a.length ≤ 9223372036854775807 := by assumption
  refine br_dec (fun hlt => ⟨hlt, by omega, br_intro (fun h => ?_) fun h => ⟨i + 1, ⟨by omega, ?_⟩, by omega, w_nat rfl (by omega)⟩⟩) (fun hge => ?_)
  · exact eqS_no fun e => by rw [e] at h; simp at h
  · have h : a[i]?.getD 0 = b[i]?.getD 0 := by simpa using h
    rw [List.getElem?_eq_getElem hlt, List.getElem?_eq_getElem (by omega)] at h
    rw [List.take_succ_eq_append_getElem hlt, List.take_succ_eq_append_getElem (by omega), he]
    simp only [Option.getD_some] at h
    rw [h]
  · obtain rfl : i = a.length := by omega
    rw [List.take_length, hl, List.take_length] at he
    exact eqS_yes he
theorem equal_ok : ConOK Try.prog 30 equalC := by
  refine con_ok tab_ok (Γ := Γequal) consOK_nil (by kernel_rfl) Try.func30 (by kernel_rfl) ?_
  intro args out h
  obtain ⟨x, e, h1⟩ := conN_inv h
  clear h
  obtain ⟨a, b, x0⟩ := x
  subst e
  replace h1 : (some ⟨.val ⟨.bool, eqS a b⟩, []⟩) = some out := h1
  injection h1 with h1
  subst h1
  exact ⟨by rw [mkArgs_len]; decide, equal_ex a b⟩
end Go.Proofs.Ytlckajldmooefaa
