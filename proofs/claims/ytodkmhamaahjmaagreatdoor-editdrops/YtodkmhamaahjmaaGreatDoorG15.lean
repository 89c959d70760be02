/- Texts joined: PicksP, PicksA, Ref6g, PicksE. -/
import Derived.Test.YtodkmhamaahjmaaGreatDoorG14
import Derived.Test.YtodkmhamaahjmaaGreatDoorG10
/- Numbers from which choices are read. -/
set_option maxRecDepth 10000
set_option maxHeartbeats 1000000
set_option linter.unusedSimpArgs false
set_option linter.unusedVariables false
set_option pp.deepTerms.threshold 12
namespace Go.Proofs.YtodkmhamaahjmaaGreatDoor
open Go.Tm Go.IntWalk

def pathL : List ByteArray := [⟨#[47, 97]⟩, ⟨#[47, 98]⟩, ⟨#[47, 99]⟩, ⟨#[47, 97, 47, 98]⟩, ⟨#[47, 97, 47, 99]⟩, ⟨#[47, 98, 47, 97]⟩, ⟨#[47, 97, 47, 98, 47, 99]⟩, ⟨#[47, 100]⟩, ⟨#[47, 98, 47, 99, 47, 100]⟩, ⟨#[47]⟩, ⟨#[97]⟩, ⟨#[47, 97, 47, 47, 98]⟩, ⟨#[47, 116, 111, 111, 108, 111, 110, 103]⟩, ⟨#[47, 126, 49]⟩, ⟨#[47, 120, 32, 121]⟩]
def pathP (p : Pk) : ByteArray × Pk := (pathL.getD (numP p 15).1.toNat ⟨#[]⟩, (numP p 15).2)
/-- The contract of (*glacismade.Picks).Path. -/
def ppathC : Con := conN [(.o, .prod (.slice (.int .u8)) (.prod (.int .i64) .unit))] fun (p, _) => if okP p then some ⟨.val ⟨.str, (pathP p).1⟩, [⟨PkT, (pathP p).2⟩]⟩ else none
theorem ppathC_eq {p : Ty.den (.prod (.slice (.int .u8)) (.prod (.int .i64) .unit))} : ppathC [.obj ⟨.prod (.slice (.int .u8)) (.prod (.int .i64) .unit), p⟩] = if okP p then some ⟨.val ⟨.str, (pathP p).1⟩, [⟨PkT, (pathP p).2⟩]⟩ else none := conN_mk (ks := [(.o, .prod (.slice (.int .u8)) (.prod (.int .i64) .unit))]) (p, ())
def Γppath : Cons := cons [(12, pnumC)]
theorem ppath_ex (p : Ty.den (.prod (.slice (.int .u8)) (.prod (.int .i64) .unit))) (hr : okP p) : Ex tab Γppath (Tryz.f11.body.getD .skip) (EndsF tab Tryz.f11.results.toList [.obj ⟨.prod (.slice (.int .u8)) (.prod (.int .i64) .unit), p⟩] ⟨.val ⟨.str, (pathP p).1⟩, [⟨PkT, (pathP p).2⟩]⟩) (ini [.obj ⟨.prod (.slice (.int .u8)) (.prod (.int .i64) .unit), p⟩]) := by
  have g_pnum : Γppath 12 = some pnumC := rfl
  simp only [Tryz.f11, Option.getD_some]
  simp (implicitDefEqProofs := false) (decide := true) (maxSteps := 4000000) [ini, g_pnum, pnumC_eq]
  have h := numP_lt hr (show (1 : Int) ≤ 15 by decide)
  refine ⟨hr, h, h.2, ?_, rfl⟩
  rw [pathP, List.getD_eq_getElem?_getD]
  rfl
theorem ppath_ok : ConOK Tryz.prog 11 ppathC := by
  refine con_ok tab_ok (Γ := Γppath) (consOK_cons pnum_ok consOK_nil) (by kernel_rfl) Tryz.func11 (by kernel_rfl) ?_
  intro args out h
  obtain ⟨x, e, h1⟩ := conN_inv h
  clear h
  obtain ⟨p, x0⟩ := x
  subst e
  replace h1 : (if okP p then some ⟨.val ⟨.str, (pathP p).1⟩, [⟨PkT, (pathP p).2⟩]⟩ else none) = some out := h1
  split at h1
  case isFalse => cases h1
  rename_i hr
  injection h1 with h1
  subst h1
  exact ⟨by rw [mkArgs_len]; decide, ppath_ex p hr⟩
end Go.Proofs.YtodkmhamaahjmaaGreatDoor

/- Numbers from which choices are read. -/
set_option maxRecDepth 10000
set_option maxHeartbeats 1000000
set_option linter.unusedSimpArgs false
set_option linter.unusedVariables false
set_option pp.deepTerms.threshold 12
namespace Go.Proofs.YtodkmhamaahjmaaGreatDoor
open Go.Tm Go.IntWalk

def lenL : List Int := [0, 1, 3, 17, 40, 41, 60, 121]
def fillP (n : Nat) (c : Int) : List Int := (List.range n).map fun i => IntKind.u8.wrap (c + IntKind.u8.wrap ((i % 3 : Nat) : Int))
def textP (p : Pk) : ByteArray × Pk :=
  let k := numP p 8
  let a := numP k.2 26
  (strOf (fillP (lenL.getD k.1.toNat 0).toNat (IntKind.u8.wrap (97 + a.1))), a.2)
/-- The contract of (*glacismade.Picks).Text. -/
def ptextC : Con := conN [(.o, .prod (.slice (.int .u8)) (.prod (.int .i64) .unit))] fun (p, _) => if okP p then some ⟨.val ⟨.str, (textP p).1⟩, [⟨PkT, (textP p).2⟩]⟩ else none
theorem ptextC_eq {p : Ty.den (.prod (.slice (.int .u8)) (.prod (.int .i64) .unit))} : ptextC [.obj ⟨.prod (.slice (.int .u8)) (.prod (.int .i64) .unit), p⟩] = if okP p then some ⟨.val ⟨.str, (textP p).1⟩, [⟨PkT, (textP p).2⟩]⟩ else none := conN_mk (ks := [(.o, .prod (.slice (.int .u8)) (.prod (.int .i64) .unit))]) (p, ())
def Γptext : Cons := cons [(12, pnumC)]
theorem ptext_ex (p : Ty.den (.prod (.slice (.int .u8)) (.prod (.int .i64) .unit))) (hr : okP p) : Ex tab Γptext (Tryz.f54.body.getD .skip) (EndsF tab Tryz.f54.results.toList [.obj ⟨.prod (.slice (.int .u8)) (.prod (.int .i64) .unit), p⟩] ⟨.val ⟨.str, (textP p).1⟩, [⟨PkT, (textP p).2⟩]⟩) (ini [.obj ⟨.prod (.slice (.int .u8)) (.prod (.int .i64) .unit), p⟩]) := by
  have g_pnum : Γptext 12 = some pnumC := rfl
  simp only [Tryz.f54, Option.getD_some]
  simp (implicitDefEqProofs := false) (decide := true) (maxSteps := 4000000) [ini, g_pnum, pnumC_eq]
  intro _
  have h := numP_lt hr (show (1 : Int) ≤ 8 by decide)
  have h1 := numP_ok hr 8
  have h2 := numP_lt h1 (show (1 : Int) ≤ 26 by decide)
  obtain ⟨n, hn⟩ : ∃ n : Nat, lenL.getD (numP p 8).1.toNat 0 = n ∧ n ≤ 121 := by
    generalize (numP p 8).1.toNat = k
    match k with
    | 0 => exact ⟨0, rfl, by decide⟩
    | 1 => exact ⟨1, rfl, by decide⟩
    | 2 => exact ⟨3, rfl, by decide⟩
    | 3 => exact ⟨17, rfl, by decide⟩
    | 4 => exact ⟨40, rfl, by decide⟩
    | 5 => exact ⟨41, rfl, by decide⟩
    | 6 => exact ⟨60, rfl, by decide⟩
    | 7 => exact ⟨121, rfl, by decide⟩
    | k + 8 => exact ⟨0, rfl, by decide⟩
  obtain ⟨hn, hn2⟩ := hn
  have hn3 := hn
  rw [lenL, List.getD_eq_getElem?_getD] at hn3
  rw [hn3]
  have w1 : IntKind.i64.wrap (97 + (numP (numP p 8).2 26).1) = 97 + (numP (numP p 8).2 26).1 := i64_in _ (by omega)
  obtain ⟨c, hc'⟩ : ∃ c, c = IntKind.u8.wrap (97 + (numP (numP p 8).2 26).1) := ⟨_, rfl⟩
  have ht : textP p = (strOf (fillP n c), (numP (numP p 8).2 26).2) := by
    rw [textP, hn, ← hc']
    rfl
  rw [ht, w1, ← hc']
  refine ⟨hr, h, h.2, fun _ => ⟨⟨by omega, by omega⟩, h1, ?_⟩⟩
  refine ex_loopU (σ := Nat × Nat × List Int) [4, 6, 18, 19, 20, 21, 22, 23, 24, 25, 26, 27, 28, 29, 30] (fun s => [(6, .val (.int .i64) (s.1 : Int)), (4, .own s.2.1 (.int .u8) s.2.2)])
    (fun s => s.1 ≤ n ∧ s.2.2 = fillP s.1 c ++ List.replicate (n - s.1) 0) (fun s => n - s.1) (0, _, _) ?_ (hc rfl (hc rfl Go.Tm.hn)) ?_
  · exact ⟨by simp, by simp [fillP]⟩
  rintro j ⟨i, q, xs⟩ ⟨hi, hx⟩
  simp only at hi hx
  simp (implicitDefEqProofs := false) (decide := true) [ini]
  have hlen : (fillP i c).length = i := by simp [fillP]
  refine br_dec (fun hlt => ⟨by rw [hx, List.length_append, hlen, List.length_replicate]; omega, i + 1, _, _, ⟨by omega, ?_⟩, by omega, w_nat rfl (by omega), rfl, rfl⟩) (fun hge => ?_)
  · have t1 : Int.tmod (i : Int) 3 = ((i % 3 : Nat) : Int) := tmod_nat i 3
    have e : fillP (i + 1) c = fillP i c ++ [IntKind.u8.wrap (c + IntKind.u8.wrap ((i % 3 : Nat) : Int))] := by simp [fillP, List.range_succ]
    have e2 : n - i = (n - (i + 1)) + 1 := by omega
    rw [hx, e2, e, List.replicate_succ]
    try rw [t1]
    rw [List.set_append_right _ _ (by omega), hlen, Nat.sub_self, List.set_cons_zero, List.append_assoc]
    rfl
  · obtain rfl : i = n := by omega
    rw [hx, Nat.sub_self, List.replicate_zero, List.append_nil]
theorem ptext_ok : ConOK Tryz.prog 54 ptextC := by
  refine con_ok tab_ok (Γ := Γptext) (consOK_cons pnum_ok consOK_nil) (by kernel_rfl) Tryz.func54 (by kernel_rfl) ?_
  intro args out h
  obtain ⟨x, e, h1⟩ := conN_inv h
  clear h
  obtain ⟨p, x0⟩ := x
  subst e
  replace h1 : (if okP p then some ⟨.val ⟨.str, (textP p).1⟩, [⟨PkT, (textP p).2⟩]⟩ else none) = some out := h1
  split at h1
  case isFalse => cases h1
  rename_i hr
  injection h1 with h1
  subst h1
  exact ⟨by rw [mkArgs_len]; decide, ptext_ex p hr⟩
end Go.Proofs.YtodkmhamaahjmaaGreatDoor

/- The reference's moves, walked. -/
set_option maxRecDepth 100000
set_option maxHeartbeats 2000000
set_option linter.unusedSimpArgs false
set_option linter.unusedVariables false
set_option pp.deepTerms.threshold 30
namespace Go.Proofs.YtodkmhamaahjmaaGreatDoor
open Go.Tm Go.IntWalk
/-- The contract of glacisref6.within, for chains that are shorter than k. -/
noncomputable def rwithinK (k : Nat) : Con := conN [(.v, TreeT), (.v, .int .i64), (.v, .int .i64)] fun (t, d, i, _) => if fitT t ∧ Deep t k i then some ⟨.val ⟨.bool, withinB t d i⟩, []⟩ else none
theorem rwithinK_rows (k : Nat) : rowy (rwithinK k) = false := rfl
theorem rwithinK_eq {k : Nat} {t : List Node} {d i : Int} : rwithinK k [.val ⟨TreeT, t⟩, .val ⟨.int .i64, d⟩, .val ⟨.int .i64, i⟩] = if fitT t ∧ Deep t k i then some ⟨.val ⟨.bool, withinB t d i⟩, []⟩ else none := conN_mk (ks := [(.v, TreeT), (.v, .int .i64), (.v, .int .i64)]) (t, d, i, ())
noncomputable def Γwithin (k : Nat) : Cons := cons [(42, rnamesC), (50, rwithinK k)]
theorem rwithin_ex (k : Nat) (t : List Node) (d i : Int) (hr : fitT t ∧ Deep t (k + 1) i) : Ex tab (Γwithin k) (Tryz.f50.body.getD .skip) (EndsF tab Tryz.f50.results.toList [.val ⟨TreeT, t⟩, .val ⟨.int .i64, d⟩, .val ⟨.int .i64, i⟩] ⟨.val ⟨.bool, withinB t d i⟩, []⟩) (ini [.val ⟨TreeT, t⟩, .val ⟨.int .i64, d⟩, .val ⟨.int .i64, i⟩]) := by
  have g_1 : Γwithin k 42 = some rnamesC := rfl
  have g_2 : Γwithin k 50 = some (rwithinK k) := rfl
  obtain ⟨h1, h2⟩ := hr
  have ht : t.length ≤ 1000 := h1.1
  simp only [Tryz.f50, Option.getD_some]
  simp (implicitDefEqProofs := false) (decide := true) (maxSteps := 4000000) [ini, g_1, g_2, rnamesC_eq, rwithinK_eq, rwithinK_rows]
  refine br_intro (fun h => ?_) fun h0 => ⟨h1, ?_⟩
  · have h : d = i := by simpa using h
    subst h
    exact withinB_yes .here
  have h0 : d ≠ i := by simpa using h0
  refine ex_loopU (σ := Nat) [6, 8, 15, 16, 17, 18, 19, 20, 21, 22, 23, 24, 25, 26, 27, 28, 29, 30, 31, 32, 33, 34, 35, 36, 37, 38, 39, 40, 41, 42, 43, 44, 45, 46, 47, 48, 49, 50, 51] (fun a => [(8, .val (.int .i64) (a : Int))]) (fun a => a ≤ (namesT t i).length ∧ ∀ e ∈ (namesT t i).take a, e.2.1 ≤ (t.length : Int) → kindT t e.2.1 = 2 → ¬ Within t d e.2.1) (fun a => (namesT t i).length - a) 0 ⟨Nat.zero_le _, by simp⟩ (hc rfl hn) ?_
  rintro j a ⟨ha, hno⟩
  simp (implicitDefEqProofs := false) (decide := true) (maxSteps := 4000000) [ini, g_1, g_2, rnamesC_eq, rwithinK_eq, rwithinK_rows]
  intro _
  refine br_dec (fun hlt => ⟨hlt, fun _ => ?_⟩) fun hge => ?_
  · obtain ⟨x, hd, hx, hmem, htk⟩ := split_at hlt
    rw [hx]
    have hxo := okE_out (namesT_ok hmem)
    have hnext : (x.2.1 ≤ (t.length : Int) → kindT t x.2.1 = 2 → ¬ Within t d x.2.1) → ∃ a', (a' ≤ (namesT t i).length ∧ ∀ (a : ByteArray) (a_3 : Int) (b : Unit), (a, a_3, b) ∈ List.take a' (namesT t i) → a_3 ≤ (t.length : Int) → kindT t a_3 = 2 → ¬Within t d a_3) ∧
        (namesT t i).length - a' < (namesT t i).length - a ∧ IntKind.i64.wrap ((a : Int) + 1) = (a' : Int) := by
      intro hq
      refine ⟨a + 1, ⟨by omega, fun n z u hm => ?_⟩, by omega, w_nat rfl (by have := namesT_len t i; omega)⟩
      rw [htk, List.mem_append, List.mem_singleton] at hm
      rcases hm with hm | hm
      · exact hno _ hm
      · have e : z = x.2.1 := by rw [← hm]
        rw [e]; exact hq
    refine br_dec (fun hle => ?_) fun hgt => hnext fun h => absurd h hgt
    have w1 : IntKind.i64.wrap (x.2.1 - 1) = x.2.1 - 1 := i64_in _ (by omega)
    rw [w1, kind_at]
    refine ⟨hlt, ⟨by omega, by omega⟩, br_intro (fun hk => ?_) fun hk => hnext fun _ h => ?_⟩
    · have hk : kindT t x.2.1 = 2 := by unfold kindT; simpa using hk
      refine ⟨hlt, ⟨h1, h2 x hmem hle hk⟩, br_intro (fun hw => ?_) fun hw => hnext fun _ _ => not_withinB hw⟩
      exact withinB_yes (.down hmem hle hk (of_withinB hw))
    · unfold kindT at h
      rw [h] at hk
      simp at hk
  · refine withinB_no fun hw => ?_
    cases hw with
    | here => exact h0 rfl
    | down he hl hk h => exact hno _ (by rw [List.take_of_length_le (by omega)]; exact he) hl hk h
/-- The contract of glacisref6.within. -/
noncomputable def rwithinC : Con := conN [(.v, TreeT), (.v, .int .i64), (.v, .int .i64)] fun (t, d, i, _) => if fitT t ∧ endsT t i then some ⟨.val ⟨.bool, withinB t d i⟩, []⟩ else none
theorem rwithinC_eq {t : Ty.den (TreeT)} {d : Int} {i : Int} : rwithinC [.val ⟨TreeT, t⟩, .val ⟨.int .i64, d⟩, .val ⟨.int .i64, i⟩] = if fitT t ∧ endsT t i then some ⟨.val ⟨.bool, withinB t d i⟩, []⟩ else none := conN_mk (ks := [(.v, TreeT), (.v, .int .i64), (.v, .int .i64)]) (t, d, i, ())
noncomputable def Γrwithin : Cons := cons []
theorem rwithinK_ok : ∀ k, ConOK Tryz.prog 50 (rwithinK k)
  | 0 => by
    intro args out vals w R hc
    obtain ⟨x, e, h1⟩ := conN_inv hc
    obtain ⟨t, d, i, x0⟩ := x
    replace h1 : (if fitT t ∧ Deep t 0 i then some ⟨.val ⟨.bool, withinB t d i⟩, []⟩ else none) = some out := h1
    rw [if_neg (fun h => h.2)] at h1
    cases h1
  | k + 1 => by
    refine con_ok tab_ok (Γ := Γwithin k) (consOK_cons rnames_ok (consOK_cons (rwithinK_ok k) consOK_nil)) (by kernel_rfl) Tryz.func50 (by kernel_rfl) ?_
    intro args out h
    obtain ⟨x, e, h1⟩ := conN_inv h
    clear h
    obtain ⟨t, d, i, x0⟩ := x
    subst e
    replace h1 : (if fitT t ∧ Deep t (k + 1) i then some ⟨.val ⟨.bool, withinB t d i⟩, []⟩ else none) = some out := h1
    split at h1
    case isFalse => cases h1
    rename_i hr
    injection h1 with h1
    subst h1
    exact ⟨by rw [mkArgs_len]; decide, rwithin_ex k t d i hr⟩
theorem rwithin_ok : ConOK Tryz.prog 50 rwithinC := by
  intro args out vals w R hc
  obtain ⟨x, e, h1⟩ := conN_inv hc
  obtain ⟨t, d, i, x0⟩ := x
  replace h1 : (if fitT t ∧ endsT t i then some ⟨.val ⟨.bool, withinB t d i⟩, []⟩ else none) = some out := h1
  split at h1
  case isFalse => cases h1
  rename_i hr
  obtain ⟨hf, k, hk⟩ := hr
  refine rwithinK_ok k args out vals w R ?_
  rw [e, ← h1]
  exact rwithinK_eq.trans (if_pos ⟨hf, hk⟩)
/-- The contract of glacisref6.Move. -/
noncomputable def rmoveTC : Con := conN [(.v, TreeT), (.v, .str), (.v, .str), (.v, .bool)] fun (t, f, p, own, _) => if fitT t ∧ allDeep t ∧ f.size ≤ 4000000000 ∧ p.size ≤ 4000000000 then some ⟨.tup [⟨TreeT, (moveT t f p own).1⟩, ⟨.int .i64, (moveT t f p own).2⟩], []⟩ else none
theorem rmoveTC_eq {t : Ty.den (TreeT)} {f : ByteArray} {p : ByteArray} {own : Bool} : rmoveTC [.val ⟨TreeT, t⟩, .val ⟨.str, f⟩, .val ⟨.str, p⟩, .val ⟨.bool, own⟩] = if fitT t ∧ allDeep t ∧ f.size ≤ 4000000000 ∧ p.size ≤ 4000000000 then some ⟨.tup [⟨TreeT, (moveT t f p own).1⟩, ⟨.int .i64, (moveT t f p own).2⟩], []⟩ else none := conN_mk (ks := [(.v, TreeT), (.v, .str), (.v, .str), (.v, .bool)]) (t, f, p, own, ())
noncomputable def ΓrmoveT : Cons := cons [(39, rpartsC), (26, rfindTC), (40, rplaceC), (42, rnamesC), (41, rfindDC), (50, rwithinC), (51, rcutTC), (43, rputTC)]
theorem rmoveT_ex (t : Ty.den (TreeT)) (f : ByteArray) (p : ByteArray) (own : Bool) (hr : fitT t ∧ allDeep t ∧ f.size ≤ 4000000000 ∧ p.size ≤ 4000000000) : Ex tab ΓrmoveT (Tryz.f19.body.getD .skip) (EndsF tab Tryz.f19.results.toList [.val ⟨TreeT, t⟩, .val ⟨.str, f⟩, .val ⟨.str, p⟩, .val ⟨.bool, own⟩] ⟨.tup [⟨TreeT, (moveT t f p own).1⟩, ⟨.int .i64, (moveT t f p own).2⟩], []⟩) (ini [.val ⟨TreeT, t⟩, .val ⟨.str, f⟩, .val ⟨.str, p⟩, .val ⟨.bool, own⟩]) := by
  have g_rparts : ΓrmoveT 39 = some rpartsC := rfl
  have g_rfindT : ΓrmoveT 26 = some rfindTC := rfl
  have g_rplace : ΓrmoveT 40 = some rplaceC := rfl
  have g_rnames : ΓrmoveT 42 = some rnamesC := rfl
  have g_rfindD : ΓrmoveT 41 = some rfindDC := rfl
  have g_rwithin : ΓrmoveT 50 = some rwithinC := rfl
  have g_rcutT : ΓrmoveT 51 = some rcutTC := rfl
  have g_rputT : ΓrmoveT 43 = some rputTC := rfl
  simp only [Tryz.f19, Option.getD_some]
  simp (implicitDefEqProofs := false) (decide := true) (maxSteps := 4000000) [ini, g_rparts, rpartsC_eq, g_rfindT, rfindTC_eq, g_rplace, rplaceC_eq, g_rnames, rnamesC_eq, g_rfindD, rfindDC_eq, g_rwithin, rwithinC_eq, g_rcutT, rcutTC_eq, g_rputT, rputTC_eq]
  obtain ⟨h1, h2, h3, h4⟩ := hr
  have ht : t.length ≤ 1000 := h1.1
  have hpl := parts_len p own
  have hpl2 := parts_len f own
  have hM := moveT.eq_1 t f p own
  generalize moveT t f p own = M at hM ⊢
  refine ⟨h3, h4, br_intro (fun h => ?_) fun h5 => br_intro (fun h => ?_) fun h6 => ⟨⟨h1, h3⟩, br_intro (fun h => ?_) fun h7 => br_intro (fun h => ?_) fun h8 _ => br_intro (fun h => ?_) fun h9 => ?_⟩⟩
  · rw [hM, if_pos (.inl (by simpa using h))]; exact ⟨rfl, rfl⟩
  · rw [hM, if_pos (.inr (by simpa using h))]; exact ⟨rfl, rfl⟩
  · rw [hM, if_neg (by rintro (k | k) <;> simp_all), if_pos (by simpa using h)]; exact ⟨rfl, rfl⟩
  · rw [hM, if_neg (by rintro (k | k) <;> simp_all), if_neg (by simpa using h7), if_pos (by simpa using h)]; exact ⟨rfl, rfl⟩
  · rw [hM, if_neg (by rintro (k | k) <;> simp_all), if_neg (by simpa using h7), if_neg (by simpa using h8), if_pos (by rw [beq_iff_eq] at h; exact Int.ofNat.inj h)]; exact ⟨rfl, rfl⟩
  have n2 : ¬ (partsS p own).1.length = 0 := fun e => by rw [e] at h9; simp at h9
  have hne : (partsS p own).1 ≠ [] := fun e => n2 (by rw [e]; rfl)
  rw [if_neg (by rintro (k | k) <;> simp_all), if_neg (by simpa using h7), if_neg (by simpa using h8), if_neg n2] at hM
  have h7 : (findT t f own).2 = 0 := by simpa using h7
  have h8 : (findT t f own).1 ≠ 1 := by simpa using h8
  have hf := findT_range h7
  have hnf := find_root h7 h8
  have hnf1 : 1 ≤ (partsS f own).1.length := by
    cases e : (partsS f own).1 with
    | nil => exact absurd e hnf
    | cons x r => simp
  obtain ⟨p1, p2, p3⟩ := walk_snoc (by rw [← (find_parts h7).2]; exact h7) hnf
  have hpo := @placeT_ok t (partsS p own).1
  have hpn := @place_name t p own
  have hpo2 := @placeT_ok t (partsS f own).1
  obtain ⟨W, hW⟩ : ∃ W, placeT t (partsS p own).1 = W := ⟨_, rfl⟩
  obtain ⟨U, hU⟩ : ∃ U, placeT t (partsS f own).1 = U := ⟨_, rfl⟩
  rw [hW] at hpo hpn hM ⊢
  rw [hU] at hpo2 hM p1 p2 p3 ⊢
  obtain ⟨u1, u2, u3, u4, u5, u6⟩ := hpo2 p1
  refine ⟨⟨h1, by omega, by omega⟩, br_intro (fun h => ?_) fun h10 => ⟨⟨h1, by omega, by omega⟩, ?_⟩⟩
  · rw [hM, if_pos (by simpa using h)]; exact ⟨rfl, rfl⟩
  rw [if_neg (by simpa using h10)] at hM
  have h10 : W.2.2 = 0 := by simpa using h10
  obtain ⟨v1, v2, v3, v4, v5, v6⟩ := hpo h10
  have hnm := ownS_size (partOK_own (hpn h10 hne))
  have w1 : IntKind.i64.wrap ((findT t f own).1 - 1) = (findT t f own).1 - 1 := i64_in _ (by omega)
  rw [w1, kind_at, eql_eq]
  have hdf := dropT_fit h1 U.1 U.2.1
  have hdl := dropT_len t U.1 U.2.1
  have tl : ¬ (U.1 = W.1 ∧ U.2.1 = W.2.1) → (fitT t ∧ br (findD (namesT t W.1) W.2.1).2 (t = M.1 ∧ 3 = M.2) ((0 ≤ (findT t f own).1 - 1 ∧ (findT t f own).1 - 1 < (t.length : Int)) ∧
      br ((nodeT t (findT t f own).1).1 == 2) ((fitT t ∧ endsT t (findT t f own).1) ∧ br (withinB t W.1 (findT t f own).1) (t = M.1 ∧ 7 = M.2) ((fitT t ∧ 1 ≤ U.1 ∧ U.1 ≤ (t.length : Int)) ∧
        (fitT (dropT t U.1 U.2.1) ∧ 1 ≤ W.1 ∧ W.1 ≤ ((dropT t U.1 U.2.1).length : Int) ∧ W.2.1.size ≤ 4000000000) ∧ br (!(putT (dropT t U.1 U.2.1) W.1 (W.2.1, (findT t f own).1, ())).2) (t = M.1 ∧ 8 = M.2) ((putT (dropT t U.1 U.2.1) W.1 (W.2.1, (findT t f own).1, ())).1 = M.1 ∧ 0 = M.2)))
      ((fitT t ∧ 1 ≤ U.1 ∧ U.1 ≤ (t.length : Int)) ∧ (fitT (dropT t U.1 U.2.1) ∧ 1 ≤ W.1 ∧ W.1 ≤ ((dropT t U.1 U.2.1).length : Int) ∧ W.2.1.size ≤ 4000000000) ∧ br (!(putT (dropT t U.1 U.2.1) W.1 (W.2.1, (findT t f own).1, ())).2) (t = M.1 ∧ 8 = M.2) ((putT (dropT t U.1 U.2.1) W.1 (W.2.1, (findT t f own).1, ())).1 = M.1 ∧ 0 = M.2)))) := by
    intro hx
    rw [if_neg hx] at hM
    refine ⟨h1, br_intro (fun h => ?_) fun h11 => ⟨⟨by omega, by omega⟩, ?_⟩⟩
    · rw [hM, if_pos h]; exact ⟨rfl, rfl⟩
    rw [if_neg (by rw [h11]; simp)] at hM
    have t2 : ¬ (kindT t (findT t f own).1 = 2 ∧ withinB t W.1 (findT t f own).1 = true) → ((fitT t ∧ 1 ≤ U.1 ∧ U.1 ≤ (t.length : Int)) ∧ (fitT (dropT t U.1 U.2.1) ∧ 1 ≤ W.1 ∧ W.1 ≤ ((dropT t U.1 U.2.1).length : Int) ∧ W.2.1.size ≤ 4000000000) ∧ br (!(putT (dropT t U.1 U.2.1) W.1 (W.2.1, (findT t f own).1, ())).2) (t = M.1 ∧ 8 = M.2) ((putT (dropT t U.1 U.2.1) W.1 (W.2.1, (findT t f own).1, ())).1 = M.1 ∧ 0 = M.2)) := by
      intro hy
      rw [if_neg hy] at hM
      refine ⟨⟨h1, u1, u2⟩, ⟨hdf, v1, by rw [hdl]; exact v2, by omega⟩, br_intro (fun h => ?_) fun h => ?_⟩
      · rw [hM, if_pos (by simpa using h)]; exact ⟨rfl, rfl⟩
      · rw [hM, if_neg (by simpa using h)]; exact ⟨rfl, rfl⟩
    refine br_intro (fun hk => ⟨⟨h1, h2 _⟩, br_intro (fun hw => ?_) fun hw => t2 fun hc => ?_⟩) fun hk => t2 fun hc => ?_
    · have hc : kindT t (findT t f own).1 = 2 ∧ withinB t W.1 (findT t f own).1 = true := ⟨by unfold kindT; simpa using hk, hw⟩
      rw [hM, if_pos hc]; exact ⟨rfl, rfl⟩
    · rw [hc.2] at hw; cases hw
    · have hc1 := hc.1
      unfold kindT at hc1
      rw [hc1] at hk
      simp at hk
  refine br_intro (fun ha => br_intro (fun hb => ?_) fun hb => tl fun hc => ?_) fun ha => tl fun hc => ?_
  · rw [hM, if_pos ⟨by simpa using ha, eqB_iff.1 hb⟩]; exact ⟨rfl, rfl⟩
  · rw [hc.2, eqB_refl] at hb; cases hb
  · rw [hc.1] at ha; simp at ha
theorem rmoveT_ok : ConOK Tryz.prog 19 rmoveTC := by
  refine con_ok tab_ok (Γ := ΓrmoveT) (consOK_cons rparts_ok (consOK_cons rfindT_ok (consOK_cons rplace_ok (consOK_cons rnames_ok (consOK_cons rfindD_ok (consOK_cons rwithin_ok (consOK_cons rcutT_ok (consOK_cons rputT_ok consOK_nil)))))))) (by kernel_rfl) Tryz.func19 (by kernel_rfl) ?_
  intro args out h
  obtain ⟨x, e, h1⟩ := conN_inv h
  clear h
  obtain ⟨t, f, p, own, x0⟩ := x
  subst e
  replace h1 : (if fitT t ∧ allDeep t ∧ f.size ≤ 4000000000 ∧ p.size ≤ 4000000000 then some ⟨.tup [⟨TreeT, (moveT t f p own).1⟩, ⟨.int .i64, (moveT t f p own).2⟩], []⟩ else none) = some out := h1
  split at h1
  case isFalse => cases h1
  rename_i hr
  injection h1 with h1
  subst h1
  exact ⟨by rw [mkArgs_len]; decide, rmoveT_ex t f p own hr⟩
end Go.Proofs.YtodkmhamaahjmaaGreatDoor

/- Changes made of numbers. -/
set_option maxRecDepth 100000
set_option maxHeartbeats 2000000
set_option linter.unusedSimpArgs false
set_option linter.unusedVariables false
set_option pp.deepTerms.threshold 30
namespace Go.Proofs.YtodkmhamaahjmaaGreatDoor
open Go.Tm Go.IntWalk
abbrev StepT : Ty := .prod (.int .i64) (.prod (.int .i64) (.prod (.int .i64) (.prod (.int .i64) (.prod (.int .i64) (.prod .str (.prod .str (.prod .str (.prod (.slice .bool) .unit))))))))
abbrev Step : Type := Int × Int × Int × Int × Int × ByteArray × ByteArray × ByteArray × List Bool × Unit
def editK : List Int := [1, 1, 1, 2, 3, 4, 4, 5, 5, 6, 7, 1]
def offW : List Int := [0, 0, 1, 39, 40, 100, 120, 130]
def offC : List Int := [0, 1, 40, 41, 120, 121, 3, 80]
def editA (kd : Int) (a : ByteArray × Pk) : Step × Pk :=
  if kd = 1 then
    if (numP (numP a.2 2).2 12).1 = 0 then ((kd, 0, 0, (numP (numP (numP a.2 2).2 12).2 4).1, 0, a.1, no, no, [], ()), (numP (numP (numP a.2 2).2 12).2 4).2)
    else ((kd, 0, 0, 1 + (numP a.2 2).1, 0, a.1, no, no, [], ()), (numP (numP a.2 2).2 12).2)
  else if kd = 2 ∨ kd = 4 then ((kd, 0, 0, 0, 0, a.1, (pathP a.2).1, no, [], ()), (pathP a.2).2)
  else if kd = 5 then ((kd, 0, 0, 0, offW.getD (numP a.2 8).1.toNat 0, a.1, no, (textP (numP a.2 8).2).1, [], ()), (textP (numP a.2 8).2).2)
  else if kd = 6 then ((kd, 0, 0, 0, offC.getD (numP a.2 8).1.toNat 0, a.1, no, no, [], ()), (numP a.2 8).2)
  else if kd = 7 then ((kd, 0, 0, (numP a.2 256).1, 0, a.1, no, no, [], ()), (numP a.2 256).2)
  else ((kd, 0, 0, 0, 0, a.1, no, no, [], ()), a.2)
def editP (p : Pk) : Step × Pk := editA (editK.getD (numP p 12).1.toNat 0) (pathP (numP p 12).2)
theorem pathP_ok {p : Pk} (h : okP p) : okP (pathP p).2 := numP_ok h 15
theorem textP_ok {p : Pk} (h : okP p) : okP (textP p).2 := numP_ok (numP_ok h 8) 26
/-- The contract of (*glacismade.Picks).Edit. -/
def peditC : Con := conN [(.o, .prod (.slice (.int .u8)) (.prod (.int .i64) .unit))] fun (p, _) => if okP p then some ⟨.val ⟨StepT, (editP p).1⟩, [⟨PkT, (editP p).2⟩]⟩ else none
theorem peditC_eq {p : Ty.den (.prod (.slice (.int .u8)) (.prod (.int .i64) .unit))} : peditC [.obj ⟨.prod (.slice (.int .u8)) (.prod (.int .i64) .unit), p⟩] = if okP p then some ⟨.val ⟨StepT, (editP p).1⟩, [⟨PkT, (editP p).2⟩]⟩ else none := conN_mk (ks := [(.o, .prod (.slice (.int .u8)) (.prod (.int .i64) .unit))]) (p, ())
def Γpedit : Cons := cons [(12, pnumC), (11, ppathC), (54, ptextC)]
theorem pedit_ex (p : Ty.den (.prod (.slice (.int .u8)) (.prod (.int .i64) .unit))) (hr : okP p) : Ex tab Γpedit (Tryz.f24.body.getD .skip) (EndsF tab Tryz.f24.results.toList [.obj ⟨.prod (.slice (.int .u8)) (.prod (.int .i64) .unit), p⟩] ⟨.val ⟨StepT, (editP p).1⟩, [⟨PkT, (editP p).2⟩]⟩) (ini [.obj ⟨.prod (.slice (.int .u8)) (.prod (.int .i64) .unit), p⟩]) := by
  have g_pnum : Γpedit 12 = some pnumC := rfl
  have g_ppath : Γpedit 11 = some ppathC := rfl
  have g_ptext : Γpedit 54 = some ptextC := rfl
  simp only [Tryz.f24, Option.getD_some]
  simp (implicitDefEqProofs := false) (decide := true) (maxSteps := 4000000) [ini, g_pnum, pnumC_eq, g_ppath, ppathC_eq, g_ptext, ptextC_eq]
  have k12 := numP_lt hr (show (1 : Int) ≤ 12 by decide)
  have h9 := numP_ok hr 12
  refine ⟨hr, k12, k12.2, h9, ?_⟩
  have e : [1, 1, 1, 2, 3, 4, 4, 5, 5, 6, 7, 1][(numP p 12).1.toNat]?.getD 0 = editK.getD (numP p 12).1.toNat 0 := by rw [List.getD_eq_getElem?_getD]; rfl
  have hv : editK.getD (numP p 12).1.toNat 0 = 1 ∨ editK.getD (numP p 12).1.toNat 0 = 2 ∨ editK.getD (numP p 12).1.toNat 0 = 3 ∨ editK.getD (numP p 12).1.toNat 0 = 4 ∨ editK.getD (numP p 12).1.toNat 0 = 5 ∨ editK.getD (numP p 12).1.toNat 0 = 6 ∨ editK.getD (numP p 12).1.toNat 0 = 7 :=
    (by decide : ∀ n < 12, editK.getD n 0 = 1 ∨ editK.getD n 0 = 2 ∨ editK.getD n 0 = 3 ∨ editK.getD n 0 = 4 ∨ editK.getD n 0 = 5 ∨ editK.getD n 0 = 6 ∨ editK.getD n 0 = 7) (numP p 12).1.toNat (by omega)
  rw [e]
  clear e k12
  unfold editP
  generalize editK.getD (numP p 12).1.toNat 0 = kd at hv ⊢
  generalize numP p 12 = k at h9 ⊢
  have ha := pathP_ok h9
  generalize pathP k.2 = a at ha ⊢
  have a1 := numP_lt ha (show (1 : Int) ≤ 2 by decide)
  have a2 := numP_ok ha 2
  have b2 := numP_ok a2 12
  have w1 : IntKind.i64.wrap (1 + (numP a.2 2).1) = 1 + (numP a.2 2).1 := i64_in _ (by omega)
  have c1 := numP_lt ha (show (1 : Int) ≤ 8 by decide)
  have c2 := numP_ok ha 8
  rcases hv with e | e | e | e | e | e | e
  · subst e
    by_cases h0 : (numP (numP a.2 2).2 12).1 = 0 <;> simp [editA, br, h0, ha, a2, b2, w1]
  · simp [editA, br, e, ha]
  · simp [editA, br, e]
  · simp [editA, br, e, ha]
  · simp [editA, br, e, ha, c1, c2, offW, List.getD_eq_getElem?_getD]
  · simp [editA, br, e, ha, c1, c2, offC, List.getD_eq_getElem?_getD]
  · simp [editA, br, e, ha]
theorem pedit_ok : ConOK Tryz.prog 24 peditC := by
  refine con_ok tab_ok (Γ := Γpedit) (consOK_cons pnum_ok (consOK_cons ppath_ok (consOK_cons ptext_ok consOK_nil))) (by kernel_rfl) Tryz.func24 (by kernel_rfl) ?_
  intro args out h
  obtain ⟨x, e, h1⟩ := conN_inv h
  clear h
  obtain ⟨p, x0⟩ := x
  subst e
  replace h1 : (if okP p then some ⟨.val ⟨StepT, (editP p).1⟩, [⟨PkT, (editP p).2⟩]⟩ else none) = some out := h1
  split at h1
  case isFalse => cases h1
  rename_i hr
  injection h1 with h1
  subst h1
  exact ⟨by rw [mkArgs_len]; decide, pedit_ex p hr⟩
/-- The contract of (*glacismade.Picks).Over. -/
def poverC : Con := conN [(.o, .prod (.slice (.int .u8)) (.prod (.int .i64) .unit))] fun (p, _) => some ⟨.val ⟨.bool, decide ((p.1.length : Int) ≤ p.2.1)⟩, [⟨PkT, p⟩]⟩
theorem poverC_eq {p : Ty.den (.prod (.slice (.int .u8)) (.prod (.int .i64) .unit))} : poverC [.obj ⟨.prod (.slice (.int .u8)) (.prod (.int .i64) .unit), p⟩] = some ⟨.val ⟨.bool, decide ((p.1.length : Int) ≤ p.2.1)⟩, [⟨PkT, p⟩]⟩ := conN_mk (ks := [(.o, .prod (.slice (.int .u8)) (.prod (.int .i64) .unit))]) (p, ())
def Γpover : Cons := cons []
theorem pover_ex (p : Ty.den (.prod (.slice (.int .u8)) (.prod (.int .i64) .unit))) : Ex tab Γpover (Tryz.f23.body.getD .skip) (EndsF tab Tryz.f23.results.toList [.obj ⟨.prod (.slice (.int .u8)) (.prod (.int .i64) .unit), p⟩] ⟨.val ⟨.bool, decide ((p.1.length : Int) ≤ p.2.1)⟩, [⟨PkT, p⟩]⟩) (ini [.obj ⟨.prod (.slice (.int .u8)) (.prod (.int .i64) .unit), p⟩]) := by
  simp only [Tryz.f23, Option.getD_some]
  simp (implicitDefEqProofs := false) (decide := true) (maxSteps := 4000000) [ini]
theorem pover_ok : ConOK Tryz.prog 23 poverC := by
  refine con_ok tab_ok (Γ := Γpover) consOK_nil (by kernel_rfl) Tryz.func23 (by kernel_rfl) ?_
  intro args out h
  obtain ⟨x, e, h1⟩ := conN_inv h
  clear h
  obtain ⟨p, x0⟩ := x
  subst e
  replace h1 : (some ⟨.val ⟨.bool, decide ((p.1.length : Int) ≤ p.2.1)⟩, [⟨PkT, p⟩]⟩) = some out := h1
  injection h1 with h1
  subst h1
  exact ⟨by rw [mkArgs_len]; decide, pover_ex p⟩
/-- A change, done to a tree. -/
noncomputable def doneT (t : List Node) (s : Step) (own : Bool) : List Node × Int :=
  if s.1 = 1 then makeT t s.2.2.2.2.2.1 s.2.2.2.1 6 0 own else
  if s.1 = 2 then linkT t s.2.2.2.2.2.1 s.2.2.2.2.2.2.1 own else
  if s.1 = 3 then delT t s.2.2.2.2.2.1 own else
  if s.1 = 4 then moveT t s.2.2.2.2.2.1 s.2.2.2.2.2.2.1 own else
  if s.1 = 5 then writeT t s.2.2.2.2.2.1 s.2.2.2.2.1 s.2.2.2.2.2.2.2.1 own else
  if s.1 = 6 then sizeT t s.2.2.2.2.2.1 s.2.2.2.2.1 own else
  modeT t s.2.2.2.2.2.1 s.2.2.2.1 own
theorem good_doneT {t : List Node} (hg : GoodT t) (s : Step) (own : Bool) : GoodT (doneT t s own).1 := by
  unfold doneT
  split
  · exact good_makeT hg _ _ _ _ _
  split
  · exact good_linkT hg _ _ _
  split
  · exact good_delT hg _ _
  split
  · exact good_moveT hg _ _ _
  split
  · exact good_write hg _ _ _ _
  split
  · exact good_size hg _ _ _
  · exact good_mode hg _ _ _
/-- The contract of glacismade.Done. -/
noncomputable def pdoneC : Con := conN [(.v, TreeT), (.v, StepT), (.v, .bool)] fun (t, s, own, _) => if fitT t ∧ allDeep t ∧ s.2.2.2.2.2.1.size ≤ 4000000000 ∧ s.2.2.2.2.2.2.1.size ≤ 4000000000 ∧ s.2.2.2.2.2.2.2.1.size ≤ 4000000000 then some ⟨.tup [⟨TreeT, (doneT t s own).1⟩, ⟨.int .i64, (doneT t s own).2⟩], []⟩ else none
theorem pdoneC_eq {t : Ty.den (TreeT)} {s : Ty.den (StepT)} {own : Bool} : pdoneC [.val ⟨TreeT, t⟩, .val ⟨StepT, s⟩, .val ⟨.bool, own⟩] = if fitT t ∧ allDeep t ∧ s.2.2.2.2.2.1.size ≤ 4000000000 ∧ s.2.2.2.2.2.2.1.size ≤ 4000000000 ∧ s.2.2.2.2.2.2.2.1.size ≤ 4000000000 then some ⟨.tup [⟨TreeT, (doneT t s own).1⟩, ⟨.int .i64, (doneT t s own).2⟩], []⟩ else none := conN_mk (ks := [(.v, TreeT), (.v, StepT), (.v, .bool)]) (t, s, own, ())
noncomputable def Γpdone : Cons := cons [(14, rmakeTC), (17, rlinkTC), (21, rdelTC), (19, rmoveTC), (27, rwriteTC), (80, rsizeTC), (81, rmodeTC)]
theorem pdone_ex (t : Ty.den (TreeT)) (s : Ty.den (StepT)) (own : Bool) (hr : fitT t ∧ allDeep t ∧ s.2.2.2.2.2.1.size ≤ 4000000000 ∧ s.2.2.2.2.2.2.1.size ≤ 4000000000 ∧ s.2.2.2.2.2.2.2.1.size ≤ 4000000000) : Ex tab Γpdone (Tryz.f59.body.getD .skip) (EndsF tab Tryz.f59.results.toList [.val ⟨TreeT, t⟩, .val ⟨StepT, s⟩, .val ⟨.bool, own⟩] ⟨.tup [⟨TreeT, (doneT t s own).1⟩, ⟨.int .i64, (doneT t s own).2⟩], []⟩) (ini [.val ⟨TreeT, t⟩, .val ⟨StepT, s⟩, .val ⟨.bool, own⟩]) := by
  have g_rmakeT : Γpdone 14 = some rmakeTC := rfl
  have g_rlinkT : Γpdone 17 = some rlinkTC := rfl
  have g_rdelT : Γpdone 21 = some rdelTC := rfl
  have g_rmoveT : Γpdone 19 = some rmoveTC := rfl
  have g_rwriteT : Γpdone 27 = some rwriteTC := rfl
  have g_rsizeT : Γpdone 80 = some rsizeTC := rfl
  have g_rmodeT : Γpdone 81 = some rmodeTC := rfl
  simp only [Tryz.f59, Option.getD_some]
  simp (implicitDefEqProofs := false) (decide := true) (maxSteps := 4000000) [ini, g_rmakeT, rmakeTC_eq, g_rlinkT, rlinkTC_eq, g_rdelT, rdelTC_eq, g_rmoveT, rmoveTC_eq, g_rwriteT, rwriteTC_eq, g_rsizeT, rsizeTC_eq, g_rmodeT, rmodeTC_eq]
  obtain ⟨h1, h2, h3, h4, h5⟩ := hr
  have hM := doneT.eq_1 t s own
  generalize doneT t s own = M at hM ⊢
  refine br_intro (fun h => ?_) fun k1 => br_intro (fun h => ?_) fun k2 => br_intro (fun h => ?_) fun k3 => br_intro (fun h => ?_) fun k4 => br_intro (fun h => ?_) fun k5 => br_intro (fun h => ?_) fun k6 => ?_
  · rw [hM, if_pos (by simpa using h)]; exact ⟨⟨h1, h3⟩, rfl, rfl⟩
  · rw [hM, if_neg (by simpa using k1), if_pos (by simpa using h)]; exact ⟨⟨h1, h3, h4⟩, rfl, rfl⟩
  · rw [hM, if_neg (by simpa using k1), if_neg (by simpa using k2), if_pos (by simpa using h)]; exact ⟨⟨h1, h3⟩, rfl, rfl⟩
  · rw [hM, if_neg (by simpa using k1), if_neg (by simpa using k2), if_neg (by simpa using k3), if_pos (by simpa using h)]; exact ⟨⟨h1, h2, h3, h4⟩, rfl, rfl⟩
  · rw [hM, if_neg (by simpa using k1), if_neg (by simpa using k2), if_neg (by simpa using k3), if_neg (by simpa using k4), if_pos (by simpa using h)]; exact ⟨⟨h1, h3, h5⟩, rfl, rfl⟩
  · rw [hM, if_neg (by simpa using k1), if_neg (by simpa using k2), if_neg (by simpa using k3), if_neg (by simpa using k4), if_neg (by simpa using k5), if_pos (by simpa using h)]; exact ⟨⟨h1, h3⟩, rfl, rfl⟩
  · rw [hM, if_neg (by simpa using k1), if_neg (by simpa using k2), if_neg (by simpa using k3), if_neg (by simpa using k4), if_neg (by simpa using k5), if_neg (by simpa using k6)]; exact ⟨⟨h1, h3⟩, rfl, rfl⟩
theorem pdone_ok : ConOK Tryz.prog 59 pdoneC := by
  refine con_ok tab_ok (Γ := Γpdone) (consOK_cons rmakeT_ok (consOK_cons rlinkT_ok (consOK_cons rdelT_ok (consOK_cons rmoveT_ok (consOK_cons rwriteT_ok (consOK_cons rsizeT_ok (consOK_cons rmodeT_ok consOK_nil))))))) (by kernel_rfl) Tryz.func59 (by kernel_rfl) ?_
  intro args out h
  obtain ⟨x, e, h1⟩ := conN_inv h
  clear h
  obtain ⟨t, s, own, x0⟩ := x
  subst e
  replace h1 : (if fitT t ∧ allDeep t ∧ s.2.2.2.2.2.1.size ≤ 4000000000 ∧ s.2.2.2.2.2.2.1.size ≤ 4000000000 ∧ s.2.2.2.2.2.2.2.1.size ≤ 4000000000 then some ⟨.tup [⟨TreeT, (doneT t s own).1⟩, ⟨.int .i64, (doneT t s own).2⟩], []⟩ else none) = some out := h1
  split at h1
  case isFalse => cases h1
  rename_i hr
  injection h1 with h1
  subst h1
  exact ⟨by rw [mkArgs_len]; decide, pdone_ex t s own hr⟩
theorem editP_ok {p : Pk} (h : okP p) : okP (editP p).2 := by
  have h9 := numP_ok h 12
  unfold editP
  generalize editK.getD (numP p 12).1.toNat 0 = kd
  generalize numP p 12 = k at h9 ⊢
  have ha := pathP_ok h9
  unfold editA
  split
  · split
    · exact numP_ok (numP_ok (numP_ok ha 2) 12) 4
    · exact numP_ok (numP_ok ha 2) 12
  split
  · exact pathP_ok ha
  split
  · exact textP_ok (numP_ok ha 8)
  split
  · exact numP_ok ha 8
  split
  · exact numP_ok ha 256
  · exact ha
theorem pathP_small (p : Pk) : (pathP p).1.size ≤ 56 := by
  unfold pathP
  generalize (numP p 15).1.toNat = k
  show (pathL.getD k ⟨#[]⟩).size ≤ 56
  rcases Nat.lt_or_ge k 15 with h | h
  · exact (by decide : ∀ k < 15, (pathL.getD k ⟨#[]⟩).size ≤ 56) k h
  · rw [List.getD_eq_getElem?_getD, List.getElem?_eq_none (by exact h)]; decide
theorem textP_small (p : Pk) : (textP p).1.size ≤ 121 := by
  unfold textP
  simp only
  rw [size_strOf]
  unfold fillP
  rw [List.length_map, List.length_range]
  generalize (numP p 8).1.toNat = k
  rcases Nat.lt_or_ge k 8 with h | h
  · exact (by decide : ∀ k < 8, (lenL.getD k 0).toNat ≤ 121) k h
  · rw [List.getD_eq_getElem?_getD, List.getElem?_eq_none (by exact h)]; decide
theorem editP_small (p : Pk) : (editP p).1.2.2.2.2.2.1.size ≤ 200 ∧ (editP p).1.2.2.2.2.2.2.1.size ≤ 200 ∧ (editP p).1.2.2.2.2.2.2.2.1.size ≤ 200 := by
  have hno : (no : ByteArray).size ≤ 200 := by decide
  have hp : ∀ p : Pk, (pathP p).1.size ≤ 200 := fun p => by have := pathP_small p; omega
  have ht : ∀ p : Pk, (textP p).1.size ≤ 200 := fun p => by have := textP_small p; omega
  unfold editP
  generalize editK.getD (numP p 12).1.toNat 0 = kd
  unfold editA
  split
  · split <;> exact ⟨hp _, hno, hno⟩
  split
  · exact ⟨hp _, hp _, hno⟩
  split
  · exact ⟨hp _, hno, ht _⟩
  split
  · exact ⟨hp _, hno, hno⟩
  split
  · exact ⟨hp _, hno, hno⟩
  · exact ⟨hp _, hno, hno⟩
/-- A tree behind so many changes. -/
noncomputable def grownP : Nat → Pk → List Node → List Node × Pk
  | 0, p, t => (t, p)
  | n + 1, p, t => if (p.1.length : Int) ≤ p.2.1 then (t, p) else grownP n (editP p).2 (doneT t (editP p).1 false).1
theorem grownP_over {n : Nat} {p : Pk} {t : List Node} (h : (p.1.length : Int) ≤ p.2.1) : grownP n p t = (t, p) := by
  cases n with
  | zero => rfl
  | succ n => rw [grownP, if_pos h]
theorem good_grown : ∀ {n : Nat} {p : Pk} {t : List Node}, GoodT t → GoodT (grownP n p t).1
  | 0, _, _, h => h
  | n + 1, p, t, h => by
    unfold grownP
    split
    · exact h
    · exact good_grown (good_doneT h _ _)
theorem grown_ok : ∀ {n : Nat} {p : Pk} {t : List Node}, okP p → okP (grownP n p t).2
  | 0, _, _, h => h
  | n + 1, p, t, h => by
    unfold grownP
    split
    · exact h
    · exact grown_ok (editP_ok h)
noncomputable instance (t : List Node) : Decidable (GoodT t) := Classical.propDecidable _
/-- The contract of (*glacismade.Picks).Grown. -/
noncomputable def pgrownC : Con := conN [(.o, .prod (.slice (.int .u8)) (.prod (.int .i64) .unit)), (.v, TreeT), (.v, .int .i64)] fun (p, t, n, _) => if okP p ∧ GoodT t ∧ 0 ≤ n ∧ n ≤ 1000 then some ⟨.val ⟨TreeT, (grownP n.toNat p t).1⟩, [⟨PkT, (grownP n.toNat p t).2⟩]⟩ else none
theorem pgrownC_eq {p : Ty.den (.prod (.slice (.int .u8)) (.prod (.int .i64) .unit))} {t : Ty.den (TreeT)} {n : Int} : pgrownC [.obj ⟨.prod (.slice (.int .u8)) (.prod (.int .i64) .unit), p⟩, .val ⟨TreeT, t⟩, .val ⟨.int .i64, n⟩] = if okP p ∧ GoodT t ∧ 0 ≤ n ∧ n ≤ 1000 then some ⟨.val ⟨TreeT, (grownP n.toNat p t).1⟩, [⟨PkT, (grownP n.toNat p t).2⟩]⟩ else none := conN_mk (ks := [(.o, .prod (.slice (.int .u8)) (.prod (.int .i64) .unit)), (.v, TreeT), (.v, .int .i64)]) (p, t, n, ())
noncomputable def Γpgrown : Cons := cons [(23, poverC), (24, peditC), (59, pdoneC)]
theorem pgrown_ex (p : Ty.den (.prod (.slice (.int .u8)) (.prod (.int .i64) .unit))) (t : Ty.den (TreeT)) (n : Int) (hr : okP p ∧ GoodT t ∧ 0 ≤ n ∧ n ≤ 1000) : Ex tab Γpgrown (Tryz.f29.body.getD .skip) (EndsF tab Tryz.f29.results.toList [.obj ⟨.prod (.slice (.int .u8)) (.prod (.int .i64) .unit), p⟩, .val ⟨TreeT, t⟩, .val ⟨.int .i64, n⟩] ⟨.val ⟨TreeT, (grownP n.toNat p t).1⟩, [⟨PkT, (grownP n.toNat p t).2⟩]⟩) (ini [.obj ⟨.prod (.slice (.int .u8)) (.prod (.int .i64) .unit), p⟩, .val ⟨TreeT, t⟩, .val ⟨.int .i64, n⟩]) := by
  have g_pover : Γpgrown 23 = some poverC := rfl
  have g_pedit : Γpgrown 24 = some peditC := rfl
  have g_pdone : Γpgrown 59 = some pdoneC := rfl
  simp only [Tryz.f29, Option.getD_some]
  simp (implicitDefEqProofs := false) (decide := true) (maxSteps := 4000000) [ini, g_pover, poverC_eq, g_pedit, peditC_eq, g_pdone, pdoneC_eq]
  obtain ⟨h1, h2, h3, h4⟩ := hr
  refine ex_loopU (σ := Nat × Pk × List Node) [1, 7, 8, 9, 10, 11, 12, 13, 14, 15, 16, 17, 18, 19, 20, 21, 22, 23, 24, 1000000] (fun a => [(7, .val (.int .i64) (a.1 : Int)), (1, .val TreeT a.2.2), (1000000, .obj 0 PkT a.2.1)])
    (fun a => (a.1 : Int) ≤ n ∧ okP a.2.1 ∧ GoodT a.2.2 ∧ grownP (n.toNat - a.1) a.2.1 a.2.2 = grownP n.toNat p t) (fun a => n.toNat - a.1) (0, p, t) ⟨by simp only; omega, h1, h2, rfl⟩ (hc rfl (hc rfl (hc rfl hn))) ?_
  rintro j ⟨i, p', t'⟩ ⟨g1, g2, g3, g4⟩
  simp only at g1 g2 g3 g4
  simp (implicitDefEqProofs := false) (decide := true) (maxSteps := 4000000) [ini, g_pover, poverC_eq, g_pedit, peditC_eq, g_pdone, pdoneC_eq]
  have hsm := editP_small p'
  refine br_dec (fun hlt => br_intro (fun hno => ?_) fun hov => ?_) fun hge => ?_
  · have hno : ¬ (p'.1.length : Int) ≤ p'.2.1 := by simpa using hno
    refine ⟨g2, ⟨g3.fit, g3.deep, by omega, by omega, by omega⟩, i + 1, (editP p').2.1, (editP p').2.2.1, (editP p').2.2.2, _, ⟨by omega, editP_ok g2, good_doneT g3 _ _, ?_⟩, by omega, w_nat rfl (by omega), rfl, rfl⟩
    rw [← g4, show n.toNat - i = (n.toNat - (i + 1)) + 1 by omega, grownP, if_neg hno]
  · have hov : (p'.1.length : Int) ≤ p'.2.1 := by simpa using hov
    rw [← g4, grownP_over hov]; exact ⟨rfl, rfl⟩
  · rw [← g4, show n.toNat - i = 0 by omega]; exact ⟨rfl, rfl⟩
theorem pgrown_ok : ConOK Tryz.prog 29 pgrownC := by
  refine con_ok tab_ok (Γ := Γpgrown) (consOK_cons pover_ok (consOK_cons pedit_ok (consOK_cons pdone_ok consOK_nil))) (by kernel_rfl) Tryz.func29 (by kernel_rfl) ?_
  intro args out h
  obtain ⟨x, e, h1⟩ := conN_inv h
  clear h
  obtain ⟨p, t, n, x0⟩ := x
  subst e
  replace h1 : (if okP p ∧ GoodT t ∧ 0 ≤ n ∧ n ≤ 1000 then some ⟨.val ⟨TreeT, (grownP n.toNat p t).1⟩, [⟨PkT, (grownP n.toNat p t).2⟩]⟩ else none) = some out := h1
  split at h1
  case isFalse => cases h1
  rename_i hr
  injection h1 with h1
  subst h1
  exact ⟨by rw [mkArgs_len]; decide, pgrown_ex p t n hr⟩
theorem newT_at {i : Int} (h1 : 1 ≤ i) (h2 : i ≤ 9) : nodeT newT i = if i = 1 then (2, 7, no, ()) else dfltN := by
  have : i = 1 ∨ i = 2 ∨ i = 3 ∨ i = 4 ∨ i = 5 ∨ i = 6 ∨ i = 7 ∨ i = 8 ∨ i = 9 := by omega
  rcases this with e | e | e | e | e | e | e | e | e <;> subst e <;> rfl
theorem newT_names (i : Int) : namesT newT i = [] := by
  by_cases h : 1 ≤ i ∧ i ≤ 9
  · by_cases e : i = 1
    · subst e
      rw [names_in (by decide) (by decide) (by unfold kindT; rw [newT_at (by decide) (by decide)]; rfl)]
      unfold bodyT
      rw [newT_at (by decide) (by decide), if_pos rfl, takeD_no]
    · exact names_file (by unfold kindT; rw [newT_at h.1 h.2, if_neg e]; decide)
  · unfold namesT
    rw [if_pos (by have : newT.length = 9 := rfl; omega)]
theorem newT_cnt (ino : Int) : ∀ n, cntT newT ino n = 0
  | 0 => rfl
  | n + 1 => by rw [cntT_succ, newT_cnt ino n, newT_names]; rfl
theorem newT_good : GoodT newT := by
  have hk : ∀ i, 1 ≤ i → i ≤ 9 → kindT newT i = if i = 1 then 2 else 0 := fun i a b => by
    unfold kindT
    rw [newT_at a b]
    split <;> rfl
  refine ⟨rfl, fun i a b => ?_, fun i a b c => ?_, fun i a b => ?_, fun i a b => ?_, fun i a b c => ?_, rfl, fun i e he => ?_, fun i a b c => ?_, newT_cnt 1 9, fun i a b c => ?_, fun i => ⟨1, fun e he => ?_⟩⟩
  · rw [hk i a b]; split <;> simp
  · rw [hk i a b] at c
    rw [newT_at a b]
    split at c
    · cases c
    · rename_i e; rw [if_neg e]
  · rw [newT_at a b]; split <;> exact ⟨by decide, by decide⟩
  · unfold bodyT
    rw [newT_at a b]; split <;> decide
  · unfold bodyT
    rw [newT_at a b]
    split <;> exact congrArg Prod.snd takeD_no
  · rw [newT_names] at he; cases he
  · rw [hk i (by omega) b, if_neg (by omega)] at c; exact absurd rfl c
  · rw [hk i (by omega) b, if_neg (by omega)] at c; cases c
  · rw [newT_names] at he; cases he
/-- The contract of (*glacismade.Picks).Tree. -/
noncomputable def ptreeC : Con := conN [(.o, .prod (.slice (.int .u8)) (.prod (.int .i64) .unit)), (.v, .int .i64)] fun (p, n, _) => if okP p ∧ 0 ≤ n ∧ n ≤ 1000 then some ⟨.val ⟨TreeT, (grownP n.toNat p newT).1⟩, [⟨PkT, (grownP n.toNat p newT).2⟩]⟩ else none
theorem ptreeC_eq {p : Ty.den (.prod (.slice (.int .u8)) (.prod (.int .i64) .unit))} {n : Int} : ptreeC [.obj ⟨.prod (.slice (.int .u8)) (.prod (.int .i64) .unit), p⟩, .val ⟨.int .i64, n⟩] = if okP p ∧ 0 ≤ n ∧ n ≤ 1000 then some ⟨.val ⟨TreeT, (grownP n.toNat p newT).1⟩, [⟨PkT, (grownP n.toNat p newT).2⟩]⟩ else none := conN_mk (ks := [(.o, .prod (.slice (.int .u8)) (.prod (.int .i64) .unit)), (.v, .int .i64)]) (p, n, ())
noncomputable def Γptree : Cons := cons [(22, rnewTC), (29, pgrownC)]
theorem ptree_ex (p : Ty.den (.prod (.slice (.int .u8)) (.prod (.int .i64) .unit))) (n : Int) (hr : okP p ∧ 0 ≤ n ∧ n ≤ 1000) : Ex tab Γptree (Tryz.f10.body.getD .skip) (EndsF tab Tryz.f10.results.toList [.obj ⟨.prod (.slice (.int .u8)) (.prod (.int .i64) .unit), p⟩, .val ⟨.int .i64, n⟩] ⟨.val ⟨TreeT, (grownP n.toNat p newT).1⟩, [⟨PkT, (grownP n.toNat p newT).2⟩]⟩) (ini [.obj ⟨.prod (.slice (.int .u8)) (.prod (.int .i64) .unit), p⟩, .val ⟨.int .i64, n⟩]) := by
  have g_rnewT : Γptree 22 = some rnewTC := rfl
  have g_pgrown : Γptree 29 = some pgrownC := rfl
  simp only [Tryz.f10, Option.getD_some]
  simp (implicitDefEqProofs := false) (decide := true) (maxSteps := 4000000) [ini, g_rnewT, rnewTC_eq, g_pgrown, pgrownC_eq]
  exact ⟨hr.1, newT_good, hr.2⟩
theorem ptree_ok : ConOK Tryz.prog 10 ptreeC := by
  refine con_ok tab_ok (Γ := Γptree) (consOK_cons rnewT_ok (consOK_cons pgrown_ok consOK_nil)) (by kernel_rfl) Tryz.func10 (by kernel_rfl) ?_
  intro args out h
  obtain ⟨x, e, h1⟩ := conN_inv h
  clear h
  obtain ⟨p, n, x0⟩ := x
  subst e
  replace h1 : (if okP p ∧ 0 ≤ n ∧ n ≤ 1000 then some ⟨.val ⟨TreeT, (grownP n.toNat p newT).1⟩, [⟨PkT, (grownP n.toNat p newT).2⟩]⟩ else none) = some out := h1
  split at h1
  case isFalse => cases h1
  rename_i hr
  injection h1 with h1
  subst h1
  exact ⟨by rw [mkArgs_len]; decide, ptree_ex p n hr⟩
end Go.Proofs.YtodkmhamaahjmaaGreatDoor
