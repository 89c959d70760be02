/- Commands made of numbers. -/
import Derived.Test.YtlckajldmooefaaFrame1
set_option maxRecDepth 10000
set_option maxHeartbeats 1000000
set_option linter.unusedSimpArgs false
set_option linter.unusedVariables false
set_option pp.deepTerms.threshold 12
namespace Go.Proofs.Ytlckajldmooefaa
open Go.Tm Go.IntWalk

abbrev PkT : Ty := .prod (.slice (.int .u8)) (.prod (.int .i64) .unit)
abbrev Pk : Type := List Int × Int × Unit
def okP (p : Pk) : Prop := isB p.1 ∧ 0 ≤ p.2.1 ∧ p.2.1 ≤ p.1.length ∧ p.1.length ≤ 1000000000

instance (p : Pk) : Decidable (okP p) := by unfold okP; infer_instance
def numP (p : Pk) (m : Int) : Int × Pk := if (p.1.length : Int) ≤ p.2.1 ∨ m < 1 then (0, p) else ((p.1.getD p.2.1.toNat 0).tmod m, (p.1, p.2.1 + 1, ()))
theorem numP_ok {p : Pk} (h : okP p) (m : Int) : okP (numP p m).2 := by
  unfold numP
  split
  · exact h
  · obtain ⟨h1, h2, h3, h4⟩ := h
    exact ⟨h1, by simp only; omega, by simp only; omega, h4⟩
theorem numP_lt {p : Pk} (h : okP p) {m : Int} (hm : 1 ≤ m) : 0 ≤ (numP p m).1 ∧ (numP p m).1 < m := by
  unfold numP
  split
  · simp only; omega
  · have h0 := isB_getD h.1 p.2.1.toNat
    exact ⟨Int.tmod_nonneg _ h0.1, Int.tmod_lt_of_pos _ (by omega)⟩
/-- The contract of glacismade.Made. -/
def pmadeC : Con := conN [(.v, .slice (.int .u8))] fun (l, _) => some ⟨.obj PkT (l, 0, ()), []⟩
theorem pmadeC_eq {l : List Int} : pmadeC [.val ⟨.slice (.int .u8), l⟩] = some ⟨.obj PkT (l, 0, ()), []⟩ := conN_mk (ks := [(.v, .slice (.int .u8))]) (l, ())
def Γpmade : Cons := cons []
theorem pmade_ex (l : List Int) : Ex tab Γpmade (Try.f9.body.getD .skip) (EndsF tab Try.f9.results.toList [.val ⟨.slice (.int .u8), l⟩] ⟨.obj PkT (l, 0, ()), []⟩) (ini [.val ⟨.slice (.int .u8), l⟩]) := by
  simp only [Try.f9, Option.getD_some]
  simp (implicitDefEqProofs := false) (decide := true) (maxSteps := 4000000) [ini]
theorem pmade_ok : ConOK Try.prog 9 pmadeC := by
  refine con_ok tab_ok (Γ := Γpmade) consOK_nil (by kernel_rfl) Try.func9 (by kernel_rfl) ?_
  intro args out h
  obtain ⟨x, e, h1⟩ := conN_inv h
  clear h
  obtain ⟨l, x0⟩ := x
  subst e
  replace h1 : (some ⟨.obj PkT (l, 0, ()), []⟩) = some out := h1
  injection h1 with h1
  subst h1
  exact ⟨by rw [mkArgs_len]; decide, pmade_ex l⟩
/-- The contract of (*glacismade.Picks).Num. -/
def pnumC : Con := conN [(.o, .prod (.slice (.int .u8)) (.prod (.int .i64) .unit)), (.v, .int .i64)] fun (p, m, _) => if okP p then some ⟨.val ⟨.int .i64, (numP p m).1⟩, [⟨PkT, (numP p m).2⟩]⟩ else none
theorem pnumC_eq {p : Ty.den (.prod (.slice (.int .u8)) (.prod (.int .i64) .unit))} {m : Int} : pnumC [.obj ⟨.prod (.slice (.int .u8)) (.prod (.int .i64) .unit), p⟩, .val ⟨.int .i64, m⟩] = if okP p then some ⟨.val ⟨.int .i64, (numP p m).1⟩, [⟨PkT, (numP p m).2⟩]⟩ else none := conN_mk (ks := [(.o, .prod (.slice (.int .u8)) (.prod (.int .i64) .unit)), (.v, .int .i64)]) (p, m, ())
def Γpnum : Cons := cons []
theorem pnum_ex (p : Ty.den (.prod (.slice (.int .u8)) (.prod (.int .i64) .unit))) (m : Int) (hr : okP p) : Ex tab Γpnum (Try.f17.body.getD .skip) (EndsF tab Try.f17.results.toList [.obj ⟨.prod (.slice (.int .u8)) (.prod (.int .i64) .unit), p⟩, .val ⟨.int .i64, m⟩] ⟨.val ⟨.int .i64, (numP p m).1⟩, [⟨PkT, (numP p m).2⟩]⟩) (ini [.obj ⟨.prod (.slice (.int .u8)) (.prod (.int .i64) .unit), p⟩, .val ⟨.int .i64, m⟩]) := by
  simp only [Try.f17, Option.getD_some]
  simp (implicitDefEqProofs := false) (decide := true) (maxSteps := 4000000) [ini]
  obtain ⟨h1, h2, h3, h4⟩ := hr
  have h2 : (0 : Int) ≤ p.2.1 := h2
  have h3 : (p.2.1 : Int) ≤ p.1.length := h3
  refine br_dec (fun h => ?_) fun h5 => br_dec (fun h => ?_) fun h6 => ?_
  · rw [numP, if_pos (.inl h)]; exact ⟨rfl, rfl⟩
  · rw [numP, if_pos (.inr h)]; exact ⟨rfl, rfl⟩
  · have h5 : ¬ (p.1.length : Int) ≤ p.2.1 := h5
    have w1 : IntKind.i64.wrap (p.2.1 + 1) = p.2.1 + 1 := i64_in _ (by omega)
    have w2 : IntKind.i64.wrap (p.2.1 + 1 - 1) = p.2.1 := by rw [i64_in _ (by omega)]; omega
    have h0 := isB_getD h1 p.2.1.toNat
    have w3 : IntKind.i64.wrap (p.1.getD p.2.1.toNat 0) = p.1.getD p.2.1.toNat 0 := i64_in _ (by omega)
    rw [List.getD_eq_getElem?_getD] at w3
    rw [w1, w2, w3, numP, if_neg (by omega)]
    refine ⟨⟨h2, by omega⟩, by omega, ?_, rfl⟩
    rw [List.getD_eq_getElem?_getD]
theorem pnum_ok : ConOK Try.prog 17 pnumC := by
  refine con_ok tab_ok (Γ := Γpnum) consOK_nil (by kernel_rfl) Try.func17 (by kernel_rfl) ?_
  intro args out h
  obtain ⟨x, e, h1⟩ := conN_inv h
  clear h
  obtain ⟨p, m, x0⟩ := x
  subst e
  replace h1 : (if okP p then some ⟨.val ⟨.int .i64, (numP p m).1⟩, [⟨PkT, (numP p m).2⟩]⟩ else none) = some out := h1
  split at h1
  case isFalse => cases h1
  rename_i hr
  injection h1 with h1
  subst h1
  exact ⟨by rw [mkArgs_len]; decide, pnum_ex p m hr⟩
def pathL : List ByteArray := [⟨#[47, 97]⟩, ⟨#[47, 98]⟩, ⟨#[47, 99]⟩, ⟨#[47, 97, 47, 98]⟩, ⟨#[47, 97, 47, 99]⟩, ⟨#[47, 98, 47, 97]⟩, ⟨#[47, 97, 47, 98, 47, 99]⟩, ⟨#[47, 100]⟩, ⟨#[47, 98, 47, 99, 47, 100]⟩, ⟨#[47]⟩, ⟨#[97]⟩, ⟨#[47, 97, 47, 47, 98]⟩, ⟨#[47, 116, 111, 111, 108, 111, 110, 103]⟩, ⟨#[47, 126, 49]⟩, ⟨#[47, 120, 32, 121]⟩]
def pathP (p : Pk) : ByteArray × Pk := (pathL.getD (numP p 15).1.toNat ⟨#[]⟩, (numP p 15).2)
/-- The contract of (*glacismade.Picks).Path. -/
def ppathC : Con := conN [(.o, .prod (.slice (.int .u8)) (.prod (.int .i64) .unit))] fun (p, _) => if okP p then some ⟨.val ⟨.str, (pathP p).1⟩, [⟨PkT, (pathP p).2⟩]⟩ else none
theorem ppathC_eq {p : Ty.den (.prod (.slice (.int .u8)) (.prod (.int .i64) .unit))} : ppathC [.obj ⟨.prod (.slice (.int .u8)) (.prod (.int .i64) .unit), p⟩] = if okP p then some ⟨.val ⟨.str, (pathP p).1⟩, [⟨PkT, (pathP p).2⟩]⟩ else none := conN_mk (ks := [(.o, .prod (.slice (.int .u8)) (.prod (.int .i64) .unit))]) (p, ())
def Γppath : Cons := cons [(17, pnumC)]
theorem ppath_ex (p : Ty.den (.prod (.slice (.int .u8)) (.prod (.int .i64) .unit))) (hr : okP p) : Ex tab Γppath (Try.f18.body.getD .skip) (EndsF tab Try.f18.results.toList [.obj ⟨.prod (.slice (.int .u8)) (.prod (.int .i64) .unit), p⟩] ⟨.val ⟨.str, (pathP p).1⟩, [⟨PkT, (pathP p).2⟩]⟩) (ini [.obj ⟨.prod (.slice (.int .u8)) (.prod (.int .i64) .unit), p⟩]) := by
  have g_pnum : Γppath 17 = some pnumC := rfl
  simp only [Try.f18, Option.getD_some]
  simp (implicitDefEqProofs := false) (decide := true) (maxSteps := 4000000) [ini, g_pnum, pnumC_eq]
  have h := numP_lt hr (show (1 : Int) ≤ 15 by decide)
  refine ⟨hr, h, h.2, ?_, rfl⟩
  rw [pathP, List.getD_eq_getElem?_getD]
  rfl
theorem ppath_ok : ConOK Try.prog 18 ppathC := by
  refine con_ok tab_ok (Γ := Γppath) (consOK_cons pnum_ok consOK_nil) (by kernel_rfl) Try.func18 (by kernel_rfl) ?_
  intro args out h
  obtain ⟨x, e, h1⟩ := conN_inv h
  clear h
  obtain ⟨p, x0⟩ := x
  subst e
  replace h1 : (if okP p then some ⟨.val ⟨.str, (pathP p).1⟩, [⟨PkT, (pathP p).2⟩]⟩ else none) = some out := h1
  split at h1
  case isFalse => cases h1
  rename_i hr
  injection h1 with h1
  subst h1
  exact ⟨by rw [mkArgs_len]; decide, ppath_ex p hr⟩
def lenL : List Int := [0, 1, 3, 17, 40, 41, 60, 121]
def fillP (n : Nat) (c : Int) : List Int := (List.range n).map fun i => IntKind.u8.wrap (c + IntKind.u8.wrap ((i % 3 : Nat) : Int))
def textP (p : Pk) : ByteArray × Pk :=
  let k := numP p 8
  let a := numP k.2 26
  (strOf (fillP (lenL.getD k.1.toNat 0).toNat (IntKind.u8.wrap (97 + a.1))), a.2)
/-- The contract of (*glacismade.Picks).Text. -/
def ptextC : Con := conN [(.o, .prod (.slice (.int .u8)) (.prod (.int .i64) .unit))] fun (p, _) => if okP p then some ⟨.val ⟨.str, (textP p).1⟩, [⟨PkT, (textP p).2⟩]⟩ else none
theorem ptextC_eq {p : Ty.den (.prod (.slice (.int .u8)) (.prod (.int .i64) .unit))} : ptextC [.obj ⟨.prod (.slice (.int .u8)) (.prod (.int .i64) .unit), p⟩] = if okP p then some ⟨.val ⟨.str, (textP p).1⟩, [⟨PkT, (textP p).2⟩]⟩ else none := conN_mk (ks := [(.o, .prod (.slice (.int .u8)) (.prod (.int .i64) .unit))]) (p, ())
def Γptext : Cons := cons [(17, pnumC)]
theorem ptext_ex (p : Ty.den (.prod (.slice (.int .u8)) (.prod (.int .i64) .unit))) (hr : okP p) : Ex tab Γptext (Try.f19.body.getD .skip) (EndsF tab Try.f19.results.toList [.obj ⟨.prod (.slice (.int .u8)) (.prod (.int .i64) .unit), p⟩] ⟨.val ⟨.str, (textP p).1⟩, [⟨PkT, (textP p).2⟩]⟩) (ini [.obj ⟨.prod (.slice (.int .u8)) (.prod (.int .i64) .unit), p⟩]) := by
  have g_pnum : Γptext 17 = some pnumC := rfl
  simp only [Try.f19, Option.getD_some]
  simp (implicitDefEqProofs := false) (decide := true) (maxSteps := 4000000) [ini, g_pnum, pnumC_eq]
  intro _
  have h := numP_lt hr (show (1 : Int) ≤ 8 by decide)
  have h1 := numP_ok hr 8
  have h2 := numP_lt h1 (show (1 : Int) ≤ 26 by decide)
  obtain ⟨n, hn⟩ : ∃ n : Nat, lenL.getD (numP p 8).1.toNat 0 = n ∧ n ≤ 121 := by
    generalize (numP p 8).1.toNat = k
    match k with
    | 0 => exact ⟨0, rfl, by decide⟩
    | 1 => exact ⟨1, rfl, by decide⟩
    | 2 => exact ⟨3, rfl, by decide⟩
    | 3 => exact ⟨17, rfl, by decide⟩
    | 4 => exact ⟨40, rfl, by decide⟩
    | 5 => exact ⟨41, rfl, by decide⟩
    | 6 => exact ⟨60, rfl, by decide⟩
    | 7 => exact ⟨121, rfl, by decide⟩
    | k + 8 => exact ⟨0, rfl, by decide⟩
  obtain ⟨hn, hn2⟩ := hn
  have hn3 := hn
  rw [lenL, List.getD_eq_getElem?_getD] at hn3
  rw [hn3]
  have w1 : IntKind.i64.wrap (97 + (numP (numP p 8).2 26).1) = 97 + (numP (numP p 8).2 26).1 := i64_in _ (by omega)
  obtain ⟨c, hc'⟩ : ∃ c, c = IntKind.u8.wrap (97 + (numP (numP p 8).2 26).1) := ⟨_, rfl⟩
  have ht : textP p = (strOf (fillP n c), (numP (numP p 8).2 26).2) := by
    rw [textP, hn, ← hc']
    rfl
  rw [ht, w1, ← hc']
  refine ⟨hr, h, h.2, fun _ => ⟨⟨by omega, by omega⟩, h1, ?_⟩⟩
  refine ex_loopU (σ := Nat × Nat × List Int) [4, 6, 18, 19, 20, 21, 22, 23, 24, 25, 26, 27, 28, 29, 30] (fun s => [(6, .val (.int .i64) (s.1 : Int)), (4, .own s.2.1 (.int .u8) s.2.2)])
    (fun s => s.1 ≤ n ∧ s.2.2 = fillP s.1 c ++ List.replicate (n - s.1) 0) (fun s => n - s.1) (0, _, _) ?_ (hc rfl (hc rfl Go.Tm.hn)) ?_
  · exact ⟨by simp, by simp [fillP]⟩
  rintro j ⟨i, q, xs⟩ ⟨hi, hx⟩
  simp only at hi hx
  simp (implicitDefEqProofs := false) (decide := true) [ini]
  have hlen : (fillP i c).length = i := by simp [fillP]
  refine br_dec (fun hlt => ⟨by rw [hx, List.length_append, hlen, List.length_replicate]; omega, i + 1, _, _, ⟨by omega, ?_⟩, by omega, w_nat rfl (by omega), rfl, rfl⟩) (fun hge => ?_)
  · have t1 : Int.tmod (i : Int) 3 = ((i % 3 : Nat) : Int) := tmod_nat i 3
    have e : fillP (i + 1) c = fillP i c ++ [IntKind.u8.wrap (c + IntKind.u8.wrap ((i % 3 : Nat) : Int))] := by simp [fillP, List.range_succ]
    have e2 : n - i = (n - (i + 1)) + 1 := by omega
    rw [hx, e2, e, List.replicate_succ]
    try rw [t1]
    rw [List.set_append_right _ _ (by omega), hlen, Nat.sub_self, List.set_cons_zero, List.append_assoc]
    rfl
  · obtain rfl : i = n := by omega
    rw [hx, Nat.sub_self, List.replicate_zero, List.append_nil]
theorem ptext_ok : ConOK Try.prog 19 ptextC := by
  refine con_ok tab_ok (Γ := Γptext) (consOK_cons pnum_ok consOK_nil) (by kernel_rfl) Try.func19 (by kernel_rfl) ?_
  intro args out h
  obtain ⟨x, e, h1⟩ := conN_inv h
  clear h
  obtain ⟨p, x0⟩ := x
  subst e
  replace h1 : (if okP p then some ⟨.val ⟨.str, (textP p).1⟩, [⟨PkT, (textP p).2⟩]⟩ else none) = some out := h1
  split at h1
  case isFalse => cases h1
  rename_i hr
  injection h1 with h1
  subst h1
  exact ⟨by rw [mkArgs_len]; decide, ptext_ex p hr⟩

def cutS (s : ByteArray) : ByteArray := s.extract 0 (if 40 < (s.size : Int) then 40 else (s.size : Int)).toNat
def cmdP (p : Pk) : Cmd × Pk :=
  let k := numP p 9
  let kd := 1 + k.1
  if kd = 1 then
    let a := numP k.2 2
    let b := numP a.2 9
    ((kd, a.1 * 65537, 65536 + b.1, 0, 0, 0, no, no, no, ()), b.2)
  else if kd = 2 then
    let a := numP k.2 10
    let b := numP a.2 2
    let c := pathP b.2
    ((kd, 0, 0, a.1, 1 + b.1, 0, no, c.1, no, ()), c.2)
  else if kd = 3 ∨ kd = 4 then
    let a := pathP k.2
    let b := pathP a.2
    ((kd, 0, 0, 0, 0, 0, a.1, b.1, no, ()), b.2)
  else if kd = 5 then
    let a := pathP k.2
    ((kd, 0, 0, 0, 0, 0, a.1, no, no, ()), a.2)
  else if kd = 6 then
    let a := pathP k.2
    let b := numP a.2 100
    let c := textP b.2
    ((kd, 0, 0, 0, 0, b.1, a.1, no, cutS c.1, ()), c.2)
  else if kd = 7 then
    let a := pathP k.2
    let b := numP a.2 130
    ((kd, 0, 0, 0, 0, b.1, a.1, no, no, ()), b.2)
  else if kd = 8 then
    let a := pathP k.2
    let b := numP a.2 256
    ((kd, 0, 0, 0, b.1, 0, a.1, no, no, ()), b.2)
  else
    let a := numP k.2 9
    ((kd, 0, 0, 0, 0, a.1, no, no, no, ()), a.2)
theorem pathP_ok {p : Pk} (h : okP p) : okP (pathP p).2 := numP_ok h 15
theorem textP_ok {p : Pk} (h : okP p) : okP (textP p).2 := numP_ok (numP_ok h 8) 26
/-- The contract of (*glacismade.Picks).Cmd. -/
def pcmdC : Con := conN [(.o, .prod (.slice (.int .u8)) (.prod (.int .i64) .unit))] fun (p, _) => if okP p then some ⟨.val ⟨CmdT, (cmdP p).1⟩, [⟨PkT, (cmdP p).2⟩]⟩ else none
theorem pcmdC_eq {p : Ty.den (.prod (.slice (.int .u8)) (.prod (.int .i64) .unit))} : pcmdC [.obj ⟨.prod (.slice (.int .u8)) (.prod (.int .i64) .unit), p⟩] = if okP p then some ⟨.val ⟨CmdT, (cmdP p).1⟩, [⟨PkT, (cmdP p).2⟩]⟩ else none := conN_mk (ks := [(.o, .prod (.slice (.int .u8)) (.prod (.int .i64) .unit))]) (p, ())
def Γpcmd : Cons := cons [(17, pnumC), (18, ppathC), (19, ptextC)]
theorem pcmd_ex (p : Ty.den (.prod (.slice (.int .u8)) (.prod (.int .i64) .unit))) (hr : okP p) : Ex tab Γpcmd (Try.f10.body.getD .skip) (EndsF tab Try.f10.results.toList [.obj ⟨.prod (.slice (.int .u8)) (.prod (.int .i64) .unit), p⟩] ⟨.val ⟨CmdT, (cmdP p).1⟩, [⟨PkT, (cmdP p).2⟩]⟩) (ini [.obj ⟨.prod (.slice (.int .u8)) (.prod (.int .i64) .unit), p⟩]) := by
  have g_pnum : Γpcmd 17 = some pnumC := rfl
  have g_ppath : Γpcmd 18 = some ppathC := rfl
  have g_ptext : Γpcmd 19 = some ptextC := rfl
  simp only [Try.f10, Option.getD_some]
  simp (implicitDefEqProofs := false) (decide := true) (maxSteps := 4000000) [ini, g_pnum, pnumC_eq, g_ppath, ppathC_eq, g_ptext, ptextC_eq]
  have hk := numP_lt hr (show (1 : Int) ≤ 9 by decide)
  have h9 := numP_ok hr 9
  have w : IntKind.i64.wrap (1 + (numP p 9).1) = 1 + (numP p 9).1 := i64_in _ (by omega)
  rw [w]
  refine ⟨hr, ?_⟩
  clear w
  unfold cmdP
  generalize numP p 9 = k at hk h9 ⊢
  rcases (show 1 + k.1 = 1 ∨ 1 + k.1 = 2 ∨ 1 + k.1 = 3 ∨ 1 + k.1 = 4 ∨ 1 + k.1 = 5 ∨ 1 + k.1 = 6 ∨ 1 + k.1 = 7 ∨ 1 + k.1 = 8 ∨ 1 + k.1 = 9 by omega) with e | e | e | e | e | e | e | e | e
  · have a1 := numP_lt h9 (show (1 : Int) ≤ 2 by decide)
    have a2 := numP_ok h9 2
    have b1 := numP_lt a2 (show (1 : Int) ≤ 9 by decide)
    have w1 : IntKind.i64.wrap ((numP k.2 2).1 * 65537) = (numP k.2 2).1 * 65537 := i64_in _ (by omega)
    have w2 : IntKind.i64.wrap (65536 + (numP (numP k.2 2).2 9).1) = 65536 + (numP (numP k.2 2).2 9).1 := i64_in _ (by omega)
    simp [br, e, h9, a2, w1, w2]
  · have a2 := numP_ok h9 10
    have b1 := numP_lt a2 (show (1 : Int) ≤ 2 by decide)
    have b2 := numP_ok a2 2
    have w1 : IntKind.i64.wrap (1 + (numP (numP k.2 10).2 2).1) = 1 + (numP (numP k.2 10).2 2).1 := i64_in _ (by omega)
    simp [br, e, h9, a2, b2, w1]
  · simp [br, e, h9, pathP_ok h9]
  · simp [br, e, h9, pathP_ok h9]
  · simp [br, e, h9]
  · have a2 := pathP_ok h9
    have b2 := numP_ok a2 100
    simp [br, e, h9, a2, b2]
    generalize (textP (numP (pathP k.snd).snd 100).snd).fst = t
    refine ⟨?_, rfl⟩
    split <;> omega
  · simp [br, e, h9, pathP_ok h9]
  · simp [br, e, h9, pathP_ok h9]
  · simp [br, e, h9]
theorem pcmd_ok : ConOK Try.prog 10 pcmdC := by
  refine con_ok tab_ok (Γ := Γpcmd) (consOK_cons pnum_ok (consOK_cons ppath_ok (consOK_cons ptext_ok consOK_nil))) (by kernel_rfl) Try.func10 (by kernel_rfl) ?_
  intro args out h
  obtain ⟨x, e, h1⟩ := conN_inv h
  clear h
  obtain ⟨p, x0⟩ := x
  subst e
  replace h1 : (if okP p then some ⟨.val ⟨CmdT, (cmdP p).1⟩, [⟨PkT, (cmdP p).2⟩]⟩ else none) = some out := h1
  split at h1
  case isFalse => cases h1
  rename_i hr
  injection h1 with h1
  subst h1
  exact ⟨by rw [mkArgs_len]; decide, pcmd_ex p hr⟩
/-! ### They may be. -/
theorem cutS_size (s : ByteArray) : (cutS s).size ≤ 40 := by
  unfold cutS
  rw [ByteArray.size_extract]
  split <;> omega
theorem pathP_size (p : Pk) : (pathP p).1.size ≤ 56 := by
  unfold pathP
  generalize (numP p 15).1.toNat = k
  show (pathL.getD k ⟨#[]⟩).size ≤ 56
  match k with
  | 0 => decide
  | 1 => decide
  | 2 => decide
  | 3 => decide
  | 4 => decide
  | 5 => decide
  | 6 => decide
  | 7 => decide
  | 8 => decide
  | 9 => decide
  | 10 => decide
  | 11 => decide
  | 12 => decide
  | 13 => decide
  | 14 => decide
  | k + 15 => exact Nat.zero_le _
theorem same_refl_str (s : ByteArray) : same .str s s = true := by simp [same]
theorem cmdP_may {p : Pk} (hr : okP p) : mayS (cmdP p).1 = true := by
  have hk := numP_lt hr (show (1 : Int) ≤ 9 by decide)
  have h9 := numP_ok hr 9
  have hno : (no : ByteArray).size = 0 := rfl
  unfold cmdP
  generalize numP p 9 = k at hk h9 ⊢
  rcases (show 1 + k.1 = 1 ∨ 1 + k.1 = 2 ∨ 1 + k.1 = 3 ∨ 1 + k.1 = 4 ∨ 1 + k.1 = 5 ∨ 1 + k.1 = 6 ∨ 1 + k.1 = 7 ∨ 1 + k.1 = 8 ∨ 1 + k.1 = 9 by omega) with e | e | e | e | e | e | e | e | e
  · have a1 := numP_lt h9 (show (1 : Int) ≤ 2 by decide)
    have a2 := numP_ok h9 2
    have b1 := numP_lt a2 (show (1 : Int) ≤ 9 by decide)
    simp [e, mayS, bareS, nums, okNum, same]
    omega
  · have a1 := numP_lt h9 (show (1 : Int) ≤ 10 by decide)
    have a2 := numP_ok h9 10
    have b1 := numP_lt a2 (show (1 : Int) ≤ 2 by decide)
    have c1 := pathP_size (numP (numP k.2 10).2 2).2
    simp [e, mayS, bareS, nums, okNum, same]
    omega
  · have c1 := pathP_size k.2
    have c2 := pathP_size (pathP k.2).2
    simp [e, mayS, bareS, nums, okNum, same]
    omega
  · have c1 := pathP_size k.2
    have c2 := pathP_size (pathP k.2).2
    simp [e, mayS, bareS, nums, okNum, same]
    omega
  · have c1 := pathP_size k.2
    simp [e, mayS, bareS, nums, okNum, same]
    omega
  · have c1 := pathP_size k.2
    have a1 := numP_lt (pathP_ok h9) (show (1 : Int) ≤ 100 by decide)
    have c2 := cutS_size (textP (numP (pathP k.2).2 100).2).1
    simp [e, mayS, bareS, nums, okNum, same]
    omega
  · have c1 := pathP_size k.2
    have a1 := numP_lt (pathP_ok h9) (show (1 : Int) ≤ 130 by decide)
    simp [e, mayS, bareS, nums, okNum, same]
    omega
  · have c1 := pathP_size k.2
    have a1 := numP_lt (pathP_ok h9) (show (1 : Int) ≤ 256 by decide)
    simp [e, mayS, bareS, nums, okNum, same]
    omega
  · have a1 := numP_lt h9 (show (1 : Int) ≤ 9 by decide)
    simp [e, mayS, bareS, nums, okNum, same]
    omega
end Go.Proofs.Ytlckajldmooefaa
