/- dir: where a name stands, by the program. -/
import Derived.Test.YthhjlbpmpffapaaGreatDoorPDir
import Derived.Test.YthhjlbpmpffapaaGreatDoorPBase
import Derived.Test.YthhjlbpmpffapaaGreatDoorTab
set_option maxRecDepth 10000
set_option maxHeartbeats 1000000
set_option linter.unusedSimpArgs false
set_option linter.unusedVariables false
set_option pp.deepTerms.threshold 14
namespace Go.Proofs.YthhjlbpmpffapaaGreatDoor
open Go.Tm Go.IntWalk
def cmpS (a b : ByteArray) : Int := if ltB a b = true then -1 else if ltB b a = true then 1 else 0
/-- The contract of cmp.isNaN[string]. -/
def dnanC : Con := conN [(.v, .str)] fun (s, _) => some ⟨.val ⟨.bool, false⟩, []⟩
theorem dnanC_eq {s : ByteArray} : dnanC [.val ⟨.str, s⟩] = some ⟨.val ⟨.bool, false⟩, []⟩ := conN_mk (ks := [(.v, .str)]) (s, ())
def Γdnan : Cons := cons []
theorem dnan_ex (s : ByteArray) : Ex tab Γdnan (Tryz.f100.body.getD .skip) (EndsF tab Tryz.f100.results.toList [.val ⟨.str, s⟩] ⟨.val ⟨.bool, false⟩, []⟩) (ini [.val ⟨.str, s⟩]) := by
  simp only [Tryz.f100, Option.getD_some]
  simp (implicitDefEqProofs := false) (decide := true) (maxSteps := 4000000) [ini]
theorem dnan_ok : ConOK Tryz.prog 100 dnanC := by
  refine con_ok tab_ok (Γ := Γdnan) consOK_nil (by kernel_rfl) Tryz.func100 (by kernel_rfl) ?_
  intro args out h
  obtain ⟨x, e, h1⟩ := conN_inv h
  clear h
  obtain ⟨s, x0⟩ := x
  subst e
  replace h1 : (some ⟨.val ⟨.bool, false⟩, []⟩) = some out := h1
  injection h1 with h1
  subst h1
  exact ⟨by rw [mkArgs_len]; decide, dnan_ex s⟩
/-- The contract of cmp.Compare[string]. -/
def dcmpC : Con := conN [(.v, .str), (.v, .str)] fun (a, b, _) => some ⟨.val ⟨.int .i64, cmpS a b⟩, []⟩
theorem dcmpC_eq {a : ByteArray} {b : ByteArray} : dcmpC [.val ⟨.str, a⟩, .val ⟨.str, b⟩] = some ⟨.val ⟨.int .i64, cmpS a b⟩, []⟩ := conN_mk (ks := [(.v, .str), (.v, .str)]) (a, b, ())
def Γdcmp : Cons := cons [(100, dnanC)]
theorem dcmp_ex (a : ByteArray) (b : ByteArray) : Ex tab Γdcmp (Tryz.f96.body.getD .skip) (EndsF tab Tryz.f96.results.toList [.val ⟨.str, a⟩, .val ⟨.str, b⟩] ⟨.val ⟨.int .i64, cmpS a b⟩, []⟩) (ini [.val ⟨.str, a⟩, .val ⟨.str, b⟩]) := by
  have g_dnan : Γdcmp 100 = some dnanC := rfl
  simp only [Tryz.f96, Option.getD_some]
  simp (implicitDefEqProofs := false) (decide := true) (maxSteps := 4000000) [ini, g_dnan, dnanC_eq]
  have hl : Op.bytesLess a.toList b.toList = ltB a b := by rw [toList_bl, toList_bl]; rfl
  rw [hl]
  refine br_intro (fun h => ?_) fun h => br_intro (fun h2 => ?_) fun h2 => ?_
  · rw [cmpS, if_pos h]
  · rw [h, Bool.not_false, Bool.true_and] at h2
    have hne := str_ne h2
    rw [cmpS, if_neg (by rw [h]; decide), if_pos ((ltB_tri h).resolve_left hne)]
  · rw [h, Bool.not_false, Bool.true_and] at h2
    have he := str_eq h2
    rw [cmpS, if_neg (by rw [h]; decide), if_neg (by rw [he, ltB_irrefl]; decide)]
theorem dcmp_ok : ConOK Tryz.prog 96 dcmpC := by
  refine con_ok tab_ok (Γ := Γdcmp) (consOK_cons dnan_ok consOK_nil) (by kernel_rfl) Tryz.func96 (by kernel_rfl) ?_
  intro args out h
  obtain ⟨x, e, h1⟩ := conN_inv h
  clear h
  obtain ⟨a, b, x0⟩ := x
  subst e
  replace h1 : (some ⟨.val ⟨.int .i64, cmpS a b⟩, []⟩) = some out := h1
  injection h1 with h1
  subst h1
  exact ⟨by rw [mkArgs_len]; decide, dcmp_ex a b⟩
/-- The contract of dir.place$1. -/
def dplace1C : Con := conN [(.v, EntT), (.v, .str)] fun (e, s, _) => some ⟨.val ⟨.int .i64, cmpS e.1 s⟩, []⟩
theorem dplace1C_eq {e : Ty.den (EntT)} {s : ByteArray} : dplace1C [.val ⟨EntT, e⟩, .val ⟨.str, s⟩] = some ⟨.val ⟨.int .i64, cmpS e.1 s⟩, []⟩ := conN_mk (ks := [(.v, EntT), (.v, .str)]) (e, s, ())
def Γdplace1 : Cons := cons [(96, dcmpC)]
theorem dplace1_ex (e : Ty.den (EntT)) (s : ByteArray) : Ex tab Γdplace1 (Tryz.f95.body.getD .skip) (EndsF tab Tryz.f95.results.toList [.val ⟨EntT, e⟩, .val ⟨.str, s⟩] ⟨.val ⟨.int .i64, cmpS e.1 s⟩, []⟩) (ini [.val ⟨EntT, e⟩, .val ⟨.str, s⟩]) := by
  have g_dcmp : Γdplace1 96 = some dcmpC := rfl
  simp only [Tryz.f95, Option.getD_some]
  simp (implicitDefEqProofs := false) (decide := true) (maxSteps := 4000000) [ini, g_dcmp, dcmpC_eq]
theorem dplace1_ok : ConOK Tryz.prog 95 dplace1C := by
  refine con_ok tab_ok (Γ := Γdplace1) (consOK_cons dcmp_ok consOK_nil) (by kernel_rfl) Tryz.func95 (by kernel_rfl) ?_
  intro args out h
  obtain ⟨x, e, h1⟩ := conN_inv h
  clear h
  obtain ⟨e, s, x0⟩ := x
  subst e
  replace h1 : (some ⟨.val ⟨.int .i64, cmpS e.1 s⟩, []⟩) = some out := h1
  injection h1 with h1
  subst h1
  exact ⟨by rw [mkArgs_len]; decide, dplace1_ex e s⟩
/-- Where a name stands, or would. -/
def posD (l : List Ent) (nm : ByteArray) : Nat := (l.takeWhile fun e => ltB e.1 nm).length
def atD (l : List Ent) (nm : ByteArray) : Bool := decide (posD l nm < l.length) && (cmpS (l.getD (posD l nm) dfltE).1 nm == 0)
theorem posD_of {l : List Ent} {nm : ByteArray} {i : Nat} (hi : i ≤ l.length) (h1 : ∀ k, (hk : k < l.length) → k < i → ltB (l[k]).1 nm = true) (h2 : (hi : i < l.length) → ltB (l[i]).1 nm = false) : posD l nm = i := by
  have e : l.takeWhile (fun e => ltB e.1 nm) = l.take i := by
    rw [← List.take_append_drop i l]
    rw [List.takeWhile_append_of_pos (fun a ha => ?_)]
    · rcases Nat.lt_or_ge i l.length with h | h
      · rw [List.drop_eq_getElem_cons h, List.takeWhile_cons_of_neg (by rw [h2 h]; decide), List.append_nil, ← List.drop_eq_getElem_cons h, List.take_append_drop]
      · rw [List.drop_eq_nil_of_le h, List.takeWhile_nil, List.append_nil, List.take_take, Nat.min_self]
    · obtain ⟨k, hk, rfl⟩ := List.getElem_of_mem ha
      rw [List.length_take] at hk
      rw [List.getElem_take]
      exact h1 k (by omega) (by omega)
  rw [posD, e, List.length_take]
  omega
/-- The contract of slices.BinarySearchFunc[[]api.Entry,api.Entry,string]. -/
def dbinC : Con := conF [(.v, .slice EntT), (.v, .str), (.c 95 [], .unit)] fun (l, nm, _, _) => if Rises l ∧ l.length ≤ 1000000000000 then some ⟨.tup [⟨.int .i64, (posD l nm : Int)⟩, ⟨.bool, atD l nm⟩], []⟩ else none
theorem dbinC_eq {l : List (Ty.den (EntT))} {nm : ByteArray} : dbinC [.val ⟨.slice EntT, l⟩, .val ⟨.str, nm⟩, .clo 95 []] = if Rises l ∧ l.length ≤ 1000000000000 then some ⟨.tup [⟨.int .i64, (posD l nm : Int)⟩, ⟨.bool, atD l nm⟩], []⟩ else none := conF_mk (ks := [(.v, .slice EntT), (.v, .str), (.c 95 [], .unit)]) (l, nm, (), ())
def Γdbin : Cons := cons [(95, dplace1C)]
theorem dbin_ex (l : List (Ty.den (EntT))) (nm : ByteArray) (hr : Rises l ∧ l.length ≤ 1000000000000) : Ex tab Γdbin (Tryz.f94.body.getD .skip) (EndsF tab Tryz.f94.results.toList [.val ⟨.slice EntT, l⟩, .val ⟨.str, nm⟩, .clo 95 []] ⟨.tup [⟨.int .i64, (posD l nm : Int)⟩, ⟨.bool, atD l nm⟩], []⟩) (ini [.val ⟨.slice EntT, l⟩, .val ⟨.str, nm⟩, .clo 95 []]) := by
  have g_dplace1 : Γdbin 95 = some dplace1C := rfl
  simp only [Tryz.f94, Option.getD_some]
  simp (implicitDefEqProofs := false) (decide := true) (maxSteps := 4000000) [ini, g_dplace1, dplace1C_eq]
  obtain ⟨hri, hlen⟩ := hr
  intro _
  refine ex_loopU (σ := Nat × Nat) [9, 10, 11, 15, 16, 17, 18, 19, 20, 21, 22, 23, 24, 25, 26, 27, 28, 29, 30, 31, 32, 33, 34] (fun a => [(9, .val (.int .i64) (a.1 : Int)), (10, .val (.int .i64) (a.2 : Int))])
    (fun a => a.1 ≤ a.2 ∧ a.2 ≤ l.length ∧ (∀ k, (hk : k < l.length) → k < a.1 → ltB (l[k]).1 nm = true) ∧ (∀ k, (hk : k < l.length) → a.2 ≤ k → ltB (l[k]).1 nm = false)) (fun a => a.2 - a.1) (0, l.length) ⟨Nat.zero_le _, Nat.le_refl _, fun k _ h => absurd h (by omega), fun k h h2 => absurd h (by omega)⟩ (hc rfl (hc rfl hn)) ?_
  rintro j ⟨x, y⟩ ⟨hxy, hy, hlo, hhi⟩
  simp only at hxy hy hlo hhi
  simp (implicitDefEqProofs := false) (decide := true) (maxSteps := 4000000) [ini, g_dplace1, dplace1C_eq]
  have h1 : IntKind.i64.wrap ((x : Int) + (y : Int)) = ((x + y : Nat) : Int) := w_nat (by omega) (by omega)
  have h2 : IntKind.u64.wrap ((x + y : Nat) : Int) = ((x + y : Nat) : Int) := by rw [IntKind.wrap_u64]; omega
  have h3 : ((x + y : Nat) : Int).fdiv 2 = (((x + y) / 2 : Nat) : Int) := by rw [Int.fdiv_eq_ediv_of_nonneg _ (by decide)]; omega
  obtain ⟨m, hm⟩ : ∃ m, (x + y) / 2 = m := ⟨_, rfl⟩
  have h4 : IntKind.i64.wrap (((m : Nat) : Int)) = (m : Int) := w_nat rfl (by omega)
  have h5 : IntKind.i64.wrap ((m : Int) + 1) = ((m + 1 : Nat) : Int) := w_nat (by omega) (by omega)
  rw [h1, h2, h3, hm, h4, h5, Int.toNat_natCast]
  refine br_dec (fun hlt => ?_) fun hge => ?_
  · have hml : m < l.length := by omega
    have hg : l[m]?.getD (({ data := #[] }, 0, ()) : Ent) = l[m] := by rw [List.getElem?_eq_getElem hml]; rfl
    rw [hg]
    have hmm : x ≤ m ∧ m < y := by omega
    refine ⟨⟨by omega, by omega⟩, br_dec (fun h => ?_) fun h => ?_⟩
    · have hlt2 : ltB (l[m]).1 nm = true := by
        rcases Bool.eq_false_or_eq_true (ltB (l[m]).1 nm) with e | e
        · exact e
        · rw [cmpS, if_neg (by rw [e]; decide)] at h
          split at h <;> exact absurd h (by decide)
      refine ⟨m + 1, y, ⟨by omega, hy, fun k hk hk2 => ?_, hhi⟩, by omega, rfl, rfl⟩
      rcases Nat.lt_or_ge k m with h6 | h6
      · exact ltB_trans (List.pairwise_iff_getElem.1 hri k m hk hml h6) hlt2
      · obtain rfl : k = m := by omega
        exact hlt2
    · have hlt2 : ltB (l[m]).1 nm = false := by
        rcases Bool.eq_false_or_eq_true (ltB (l[m]).1 nm) with e | e
        · rw [cmpS, if_pos e] at h; exact absurd (show (-1 : Int) < 0 by decide) h
        · exact e
      refine ⟨x, m, ⟨by omega, by omega, hlo, fun k hk hk2 => ?_⟩, by omega, rfl, rfl⟩
      rcases Nat.lt_or_ge m k with h6 | h6
      · cases e : ltB (l[k]).1 nm with
        | false => rfl
        | true =>
          have := ltB_trans (List.pairwise_iff_getElem.1 hri m k hml hk h6) e
          rw [hlt2] at this; cases this
      · obtain rfl : k = m := by omega
        exact hlt2
  · obtain rfl : x = y := by omega
    have hp : posD l nm = x := posD_of hy hlo fun h => hhi x h (Nat.le_refl _)
    refine br_dec (fun hlt => ?_) fun hge => ?_
    · refine ⟨hlt, by rw [hp], ?_⟩
      rw [atD, hp, decide_eq_true hlt, Bool.true_and, List.getD_eq_getElem?_getD]
      rfl
    · exact ⟨by rw [hp], by rw [atD, hp, decide_eq_false hge, Bool.false_and]⟩
theorem dbin_ok : ConOK Tryz.prog 94 dbinC := by
  refine con_ok tab_ok (Γ := Γdbin) (consOK_cons dplace1_ok consOK_nil) (by kernel_rfl) Tryz.func94 (by kernel_rfl) ?_
  intro args out h
  obtain ⟨x, e, h1⟩ := conF_inv h
  clear h
  obtain ⟨l, nm, x00, x0⟩ := x
  subst e
  replace h1 : (if Rises l ∧ l.length ≤ 1000000000000 then some ⟨.tup [⟨.int .i64, (posD l nm : Int)⟩, ⟨.bool, atD l nm⟩], []⟩ else none) = some out := h1
  split at h1
  case isFalse => cases h1
  rename_i hr
  injection h1 with h1
  subst h1
  exact ⟨by rw [mkArgs2_len]; decide, dbin_ex l nm hr⟩
/-- The contract of dir.place. -/
def dplaceC : Con := conN [(.v, .slice EntT), (.v, .str)] fun (l, nm, _) => if Rises l ∧ l.length ≤ 1000000000000 then some ⟨.tup [⟨.int .i64, (posD l nm : Int)⟩, ⟨.bool, atD l nm⟩], []⟩ else none
theorem dplaceC_eq {l : List (Ty.den (EntT))} {nm : ByteArray} : dplaceC [.val ⟨.slice EntT, l⟩, .val ⟨.str, nm⟩] = if Rises l ∧ l.length ≤ 1000000000000 then some ⟨.tup [⟨.int .i64, (posD l nm : Int)⟩, ⟨.bool, atD l nm⟩], []⟩ else none := conN_mk (ks := [(.v, .slice EntT), (.v, .str)]) (l, nm, ())
def Γdplace : Cons := cons [(94, dbinC)]
theorem dplace_ex (l : List (Ty.den (EntT))) (nm : ByteArray) (hr : Rises l ∧ l.length ≤ 1000000000000) : Ex tab Γdplace (Tryz.f87.body.getD .skip) (EndsF tab Tryz.f87.results.toList [.val ⟨.slice EntT, l⟩, .val ⟨.str, nm⟩] ⟨.tup [⟨.int .i64, (posD l nm : Int)⟩, ⟨.bool, atD l nm⟩], []⟩) (ini [.val ⟨.slice EntT, l⟩, .val ⟨.str, nm⟩]) := by
  have g_dbin : Γdplace 94 = some dbinC := rfl
  simp only [Tryz.f87, Option.getD_some]
  simp (implicitDefEqProofs := false) (decide := true) (maxSteps := 4000000) [ini, g_dbin, dbinC_eq]
  exact hr
theorem dplace_ok : ConOK Tryz.prog 87 dplaceC := by
  refine con_ok tab_ok (Γ := Γdplace) (consOK_cons dbin_ok consOK_nil) (by kernel_rfl) Tryz.func87 (by kernel_rfl) ?_
  intro args out h
  obtain ⟨x, e, h1⟩ := conN_inv h
  clear h
  obtain ⟨l, nm, x0⟩ := x
  subst e
  replace h1 : (if Rises l ∧ l.length ≤ 1000000000000 then some ⟨.tup [⟨.int .i64, (posD l nm : Int)⟩, ⟨.bool, atD l nm⟩], []⟩ else none) = some out := h1
  split at h1
  case isFalse => cases h1
  rename_i hr
  injection h1 with h1
  subst h1
  exact ⟨by rw [mkArgs_len]; decide, dplace_ex l nm hr⟩
theorem posD_spec (l : List Ent) (nm : ByteArray) : posD l nm ≤ l.length ∧ (∀ k, (hk : k < l.length) → k < posD l nm → ltB (l[k]).1 nm = true) ∧ ((h : posD l nm < l.length) → ltB (l[posD l nm]).1 nm = false) := by
  induction l with
  | nil => exact ⟨Nat.le_refl _, fun k hk => absurd hk (Nat.not_lt_zero _), fun h => absurd h (Nat.not_lt_zero _)⟩
  | cons x r ih =>
    obtain ⟨i1, i2, i3⟩ := ih
    cases hx : ltB x.1 nm with
    | true =>
      have e : posD (x :: r) nm = posD r nm + 1 := by rw [posD, List.takeWhile_cons_of_pos (by exact hx)]; rfl
      rw [e]
      refine ⟨by simpa using i1, fun k hk hk2 => ?_, fun h => ?_⟩
      · cases k with
        | zero => exact hx
        | succ k => exact i2 k (by simpa using hk) (by omega)
      · simp only [List.getElem_cons_succ]
        exact i3 (by simpa using h)
    | false =>
      have e : posD (x :: r) nm = 0 := by rw [posD, List.takeWhile_cons_of_neg (by rw [hx]; decide)]; rfl
      rw [e]
      exact ⟨Nat.zero_le _, fun k _ h => absurd h (Nat.not_lt_zero _), fun _ => hx⟩
theorem cmpS_zero {a b : ByteArray} : cmpS a b = 0 ↔ a = b := by
  unfold cmpS
  constructor
  · intro h
    split at h
    · cases h
    · rename_i h1
      split at h
      · cases h
      · rename_i h2
        exact (ltB_tri (by simpa using h1)).resolve_right h2
  · rintro rfl
    rw [if_neg (by rw [ltB_irrefl]; decide), if_neg (by rw [ltB_irrefl]; decide)]
theorem atD_iff {l : List Ent} {nm : ByteArray} : atD l nm = true ↔ ∃ h : posD l nm < l.length, (l[posD l nm]).1 = nm := by
  rw [atD, Bool.and_eq_true, decide_eq_true_eq, beq_iff_eq, cmpS_zero]
  constructor
  · rintro ⟨h, e⟩
    rw [List.getD_eq_getElem?_getD, List.getElem?_eq_getElem h] at e
    exact ⟨h, e⟩
  · rintro ⟨h, e⟩
    rw [List.getD_eq_getElem?_getD, List.getElem?_eq_getElem h]
    exact ⟨h, e⟩
theorem find_yes {l : List Ent} {nm : ByteArray} (hr : Rises l) (h : atD l nm = true) : ∃ hp : posD l nm < l.length, (l[posD l nm]).1 = nm ∧ findD l nm = ((l[posD l nm]).2.1, true) := by
  obtain ⟨hp, e⟩ := atD_iff.1 h
  obtain ⟨s1, s2, s3⟩ := posD_spec l nm
  refine ⟨hp, e, ?_⟩
  have : l.find? (fun x => eqB x.1 nm) = some l[posD l nm] := List.find?_eq_some_iff_getElem.2 ⟨by rw [e]; exact eqB_refl nm, posD l nm, hp, rfl, fun j hj => by
    rw [eqB_ne (ltB_ne (s2 j (by omega) hj))]; rfl⟩
  rw [findD, this]
theorem find_none_at {l : List Ent} {nm : ByteArray} (hr : Rises l) (h : atD l nm = false) : ∀ x ∈ l, x.1 ≠ nm := by
  obtain ⟨s1, s2, s3⟩ := posD_spec l nm
  intro x hx
  obtain ⟨k, hk, rfl⟩ := List.getElem_of_mem hx
  rcases Nat.lt_trichotomy k (posD l nm) with h1 | h1 | h1
  · exact ltB_ne (s2 k hk h1)
  · subst h1
    intro e
    rw [atD_iff.2 ⟨hk, e⟩] at h; cases h
  · have hp : posD l nm < l.length := by omega
    have hne : (l[posD l nm]).1 ≠ nm := fun e => by rw [atD_iff.2 ⟨hp, e⟩] at h; cases h
    have h3 := (ltB_tri (s3 hp)).resolve_left hne
    exact (ltB_ne (ltB_trans h3 (List.pairwise_iff_getElem.1 hr _ _ hp hk h1))).symm
theorem find_no {l : List Ent} {nm : ByteArray} (hr : Rises l) (h : atD l nm = false) : findD l nm = (0, false) := by
  have : l.find? (fun x => eqB x.1 nm) = none := List.find?_eq_none.2 fun x hx => by rw [eqB_ne (find_none_at hr h x hx)]; decide
  rw [findD, this]
theorem find_at {l : List Ent} {nm : ByteArray} (hr : Rises l) : (findD l nm).2 = atD l nm := by
  cases h : atD l nm with
  | true =>
    obtain ⟨hp, _, h2⟩ := find_yes hr h
    rw [h2]
  | false => rw [find_no hr h]
theorem ins_at {l : List Ent} {e : Ent} (h : ∀ x ∈ l, x.1 ≠ e.1) : insD e l = l.take (posD l e.1) ++ e :: l.drop (posD l e.1) := by
  induction l with
  | nil => rfl
  | cons x r ih =>
    have ih := ih fun y hy => h y (by simp [hy])
    cases hx : ltB x.1 e.1 with
    | true =>
      have e1 : posD (x :: r) e.1 = posD r e.1 + 1 := by rw [posD, List.takeWhile_cons_of_pos (by exact hx)]; rfl
      rw [e1, insD, if_neg (by rw [ltB_asymm hx]; decide), ih]
      rfl
    | false =>
      have e1 : posD (x :: r) e.1 = 0 := by rw [posD, List.takeWhile_cons_of_neg (by rw [hx]; decide)]; rfl
      rw [e1, insD, if_pos ((ltB_tri hx).resolve_left (h x (by simp)))]
      rfl
theorem less_at {l : List Ent} {nm : ByteArray} (hr : Rises l) (h : atD l nm = true) : l.filter (fun e => !eqB e.1 nm) = l.take (posD l nm) ++ l.drop (posD l nm + 1) := by
  obtain ⟨hp, e⟩ := atD_iff.1 h
  obtain ⟨s1, s2, s3⟩ := posD_spec l nm
  have e0 : l = l.take (posD l nm) ++ l[posD l nm] :: l.drop (posD l nm + 1) := by rw [← List.drop_eq_getElem_cons hp, List.take_append_drop]
  have f1 : (l.take (posD l nm)).filter (fun e => !eqB e.1 nm) = l.take (posD l nm) := List.filter_eq_self.2 fun x hx => by
    obtain ⟨k, hk, rfl⟩ := List.getElem_of_mem hx
    rw [List.length_take] at hk
    rw [List.getElem_take, eqB_ne (ltB_ne (s2 k (by omega) (by omega)))]; rfl
  have f2 : (l.drop (posD l nm + 1)).filter (fun e => !eqB e.1 nm) = l.drop (posD l nm + 1) := List.filter_eq_self.2 fun x hx => by
    obtain ⟨k, hk, rfl⟩ := List.getElem_of_mem hx
    rw [List.length_drop] at hk
    rw [List.getElem_drop]
    have := List.pairwise_iff_getElem.1 hr (posD l nm) (posD l nm + 1 + k) hp (by omega) (by omega)
    rw [e] at this
    rw [eqB_ne (ltB_ne this).symm]; rfl
  conv => lhs; rw [e0]
  rw [List.filter_append, f1, List.filter_cons_of_neg (by rw [e, eqB_refl]; decide), f2]
/-- The contract of dir.Find. -/
def dfindDC : Con := conN [(.v, .slice EntT), (.v, .str)] fun (l, nm, _) => if Rises l ∧ l.length ≤ 1000000000000 then some ⟨.tup [⟨.int .i64, (findD l nm).1⟩, ⟨.bool, (findD l nm).2⟩], []⟩ else none
theorem dfindDC_eq {l : List (Ty.den (EntT))} {nm : ByteArray} : dfindDC [.val ⟨.slice EntT, l⟩, .val ⟨.str, nm⟩] = if Rises l ∧ l.length ≤ 1000000000000 then some ⟨.tup [⟨.int .i64, (findD l nm).1⟩, ⟨.bool, (findD l nm).2⟩], []⟩ else none := conN_mk (ks := [(.v, .slice EntT), (.v, .str)]) (l, nm, ())
def ΓdfindD : Cons := cons [(87, dplaceC)]
theorem dfindD_ex (l : List (Ty.den (EntT))) (nm : ByteArray) (hr : Rises l ∧ l.length ≤ 1000000000000) : Ex tab ΓdfindD (Tryz.f73.body.getD .skip) (EndsF tab Tryz.f73.results.toList [.val ⟨.slice EntT, l⟩, .val ⟨.str, nm⟩] ⟨.tup [⟨.int .i64, (findD l nm).1⟩, ⟨.bool, (findD l nm).2⟩], []⟩) (ini [.val ⟨.slice EntT, l⟩, .val ⟨.str, nm⟩]) := by
  have g_dplace : ΓdfindD 87 = some dplaceC := rfl
  simp only [Tryz.f73, Option.getD_some]
  simp (implicitDefEqProofs := false) (decide := true) (maxSteps := 4000000) [ini, g_dplace, dplaceC_eq]
  refine ⟨hr, br_intro (fun h => ?_) fun h => ?_⟩
  · rw [find_no hr.1 (by simpa using h)]; exact ⟨rfl, rfl⟩
  · have h : atD l nm = true := by simpa using h
    obtain ⟨hp, h1, h2⟩ := find_yes hr.1 h
    rw [h2]
    refine ⟨hp, ?_, rfl⟩
    rw [List.getElem?_eq_getElem hp]; rfl
theorem dfindD_ok : ConOK Tryz.prog 73 dfindDC := by
  refine con_ok tab_ok (Γ := ΓdfindD) (consOK_cons dplace_ok consOK_nil) (by kernel_rfl) Tryz.func73 (by kernel_rfl) ?_
  intro args out h
  obtain ⟨x, e, h1⟩ := conN_inv h
  clear h
  obtain ⟨l, nm, x0⟩ := x
  subst e
  replace h1 : (if Rises l ∧ l.length ≤ 1000000000000 then some ⟨.tup [⟨.int .i64, (findD l nm).1⟩, ⟨.bool, (findD l nm).2⟩], []⟩ else none) = some out := h1
  split at h1
  case isFalse => cases h1
  rename_i hr
  injection h1 with h1
  subst h1
  exact ⟨by rw [mkArgs_len]; decide, dfindD_ex l nm hr⟩
end Go.Proofs.YthhjlbpmpffapaaGreatDoor
