/- Texts joined: Dir2, Dir3, Ref6b, Ref6w. -/
import Derived.Test.YtodkmhamaahjmaaGreatDoorG3
import Derived.Test.YtodkmhamaahjmaaGreatDoorG1
import Derived.Test.YtodkmhamaahjmaaGreatDoorTab
/- dir: folders taken from bytes, by the program. -/
set_option maxRecDepth 10000
set_option maxHeartbeats 1000000
set_option linter.unusedSimpArgs false
set_option linter.unusedVariables false
set_option pp.deepTerms.threshold 14
namespace Go.Proofs.YtodkmhamaahjmaaGreatDoor
open Go.Tm Go.IntWalk

/-- Before the loop a row is told as only read, and a nil as a row of the call's own. -/
theorem ex_loopRN {tab : Tab} {Γ : Cons} {σ : Type} {x : Code} {Q : Exit → St → Prop} {st : St} (k : Nat) {n : Nat} {t : Ty} {v : List t.den} (hk : st k = .own n t v) (k2 : Nat) (t2 : Ty) (hk2 : Tm.put st k (.val (.slice t) v) k2 = .nil) (D : List Nat) (live : σ → Ups) (I : σ → Prop) (μ : σ → Nat)
    (h0 : ∀ m, ∃ a0, I a0 ∧ holds (live a0) (Tm.put (Tm.put st k (.val (.slice t) v)) k2 (.own m t2 [])))
    (h : ∀ (m : Nat) (j : St) (a : σ), I a → Ex tab Γ x (loopK Q fun st' => ∃ a', I a' ∧ μ a' < μ a ∧ holds (live a') st' ∧ Off D (Tm.put (Tm.put st k (.val (.slice t) v)) k2 (.own m t2 [])) st') (app (live a) (hav j (Tm.put (Tm.put st k (.val (.slice t) v)) k2 (.own m t2 [])) D))) : Ex tab Γ (.loop x) Q st := by
  have e : ∀ m, opens m [(k2, t2)] (seals [k] st) = Tm.put (Tm.put st k (.val (.slice t) v)) k2 (.own m t2 []) := fun m => by
    rw [seals_own hk, opens_one hk2]
  refine ex_loopG' [k] [(k2, t2)] D live I μ (fun m => ?_) (fun m => ?_)
  · rw [e m]; exact h0 m
  · rw [e m]; exact h m
theorem isB_li (x : List UInt8) : isB (li x) := fun v hv => by
  obtain ⟨c, _, rfl⟩ := List.mem_map.1 hv
  have := c.toNat_lt
  omega
theorem li_inj {x y : List UInt8} (h : li x = li y) : x = y := by
  have := congrArg strOf h
  rw [strOf_li, strOf_li] at this
  have := congrArg bl this
  rwa [bl_ofL, bl_ofL] at this
theorem take_ent {e : Ent} (h : okE e = true) (r : List UInt8) : takeTextS (li (entL e ++ r)) = (e.1, 1 + (e.1.size : Int), true) ∧ takeS ((li (entL e ++ r)).drop (1 + e.1.size)) 1 = (e.2.1, true) ∧ (li (entL e ++ r)).drop (2 + e.1.size) = li r ∧ (li (entL e ++ r)).length = 2 + e.1.size + r.length := by
  obtain ⟨o1, o2, o3⟩ := okE_out h
  obtain ⟨o4, o5⟩ := ownS_size o1
  obtain ⟨n, hn⟩ : ∃ n : Nat, (e.2.1 : Int) = n := ⟨e.2.1.toNat, by omega⟩
  have e0 : li (entL e ++ r) = (e.1.size : Int) :: (bytesOf e.1 ++ (e.2.1 :: li r)) := by
    rw [li_append, entL, hn, bytesOf_li]
    simp [li]
    omega
  have hb : (bytesOf e.1).length = e.1.size := bytesOf_len _
  rw [e0]
  refine ⟨?_, ?_, ?_, ?_⟩
  · unfold takeTextS
    simp only [List.length_cons, List.length_append, List.getD_cons_zero, hb, li_len]
    rw [i64_in _ (by omega), if_neg (by omega)]
    simp only [List.drop_succ_cons, List.drop_zero, Int.toNat_natCast]
    rw [List.take_left' hb, strOf_bytesOf]
  · rw [show 1 + e.1.size = e.1.size + 1 by omega, List.drop_succ_cons, List.drop_left' hb]
    have hB : isB (e.2.1 :: li r) := isB_cons.2 ⟨by omega, isB_li r⟩
    have hn1 := takeS_nat (nats_lt hB) 1
    rw [ints_nats hB] at hn1
    rw [hn1, if_neg (by rw [nats_length]; simp only [List.length_cons]; omega), hn]
    simp [nats, le]
  · rw [show 2 + e.1.size = (e.1.size + 1) + 1 by omega, List.drop_succ_cons, ← List.drop_drop, List.drop_left' hb]
    rfl
  · simp only [List.length_cons, List.length_append, hb, li_len]; omega
/-- The contract of dir.Take. -/
def dtakeC : Con := conN [(.v, .str)] fun (s, _) => if s.size ≤ 100000000000 then some ⟨.tup [⟨.slice (.prod .str (.prod (.int .i64) .unit)), (takeD s).1⟩, ⟨.bool, (takeD s).2⟩], []⟩ else none
theorem dtakeC_eq {s : ByteArray} : dtakeC [.val ⟨.str, s⟩] = if s.size ≤ 100000000000 then some ⟨.tup [⟨.slice (.prod .str (.prod (.int .i64) .unit)), (takeD s).1⟩, ⟨.bool, (takeD s).2⟩], []⟩ else none := conN_mk (ks := [(.v, .str)]) (s, ())
def Γdtake : Cons := cons [(104, takeTextC), (105, takeC), (69, dputC)]
theorem dtake_ex (s : ByteArray) (hr : s.size ≤ 100000000000) : Ex tab Γdtake (Tryz.f88.body.getD .skip) (EndsF tab Tryz.f88.results.toList [.val ⟨.str, s⟩] ⟨.tup [⟨.slice (.prod .str (.prod (.int .i64) .unit)), (takeD s).1⟩, ⟨.bool, (takeD s).2⟩], []⟩) (ini [.val ⟨.str, s⟩]) := by
  have g_takeText : Γdtake 104 = some takeTextC := rfl
  have g_take : Γdtake 105 = some takeC := rfl
  have g_dput : Γdtake 69 = some dputC := rfl
  simp only [Tryz.f88, Option.getD_some]
  simp (implicitDefEqProofs := false) (decide := true) (maxSteps := 4000000) [ini, g_takeText, takeTextC_eq, g_take, takeC_eq, g_dput, dputC_eq]
  intro m
  have hb0 : (bytesOf s).length = s.size := bytesOf_len s
  refine ⟨by omega, ?_⟩
  refine ex_loopRN 5 rfl 4 EntT rfl (σ := List Int × Nat × List Ent) [2, 3, 4, 5, 6, 7, 8, 9, 10, 15, 16, 17, 18, 19, 20, 21, 22, 23, 24, 25, 26, 27, 28, 29, 30, 31, 32, 33, 34, 35, 36, 37, 38, 39, 40, 41, 42, 43, 44, 45, 46] (fun a => [(5, .val (.slice (.int .u8)) a.1), (4, .own a.2.1 EntT a.2.2)])
    (fun a => isB a.1 ∧ a.1.length + 2 * a.2.2.length ≤ s.size ∧ (∀ e ∈ a.2.2, e.1.size ≤ 255) ∧ ∀ l0, dirOK l0 → dirL l0 = bl s → ∃ r, l0 = a.2.2 ++ r ∧ li (dirL r) = a.1) (fun a => a.1.length) (fun m => ⟨(bytesOf s, m, []), ⟨isB_bytesOf s, by simp [hb0], by simp, fun l0 _ h => ⟨l0, rfl, by rw [h]; rfl⟩⟩, hc rfl (hc rfl hn)⟩) ?_
  rintro m' j ⟨b, q, out⟩ ⟨hB, hsz, hnm, hall⟩
  simp only at hB hsz hnm hall
  simp (implicitDefEqProofs := false) (decide := true) (maxSteps := 4000000) [ini, g_takeText, takeTextC_eq, g_take, takeC_eq, g_dput, dputC_eq]
  intro hbl
  have hl63 : b.length ≤ 100000000000 := by omega
  have g0 := isB_getD hB 0
  have hno : (∀ l0, dirOK l0 → dirL l0 = bl s → False) → takeD s = ([], false) := fun h => by
    rcases takeD_cases s with ⟨l0, hl0⟩ | h2
    · exact (h l0 (takeD_iff.1 hl0).1 (takeD_iff.1 hl0).2).elim
    · exact h2
  have hent : ∀ l0, dirOK l0 → dirL l0 = bl s → 0 < b.length → ∃ e r, l0 = out ++ e :: r ∧ okE e = true ∧ b = li (entL e ++ dirL r) := fun l0 h1 h2 h3 => by
    obtain ⟨r, e1, e2⟩ := hall l0 h1 h2
    cases r with
    | nil => rw [← e2] at h3; exact absurd h3 (by simp [dirL, li])
    | cons e r => exact ⟨e, r, e1, h1.1 e (by rw [e1]; simp), by rw [← e2, dirL_cons]⟩
  refine br_dec (fun hpos => ⟨by rw [← List.getD_eq_getElem?_getD]; exact g0, ?_⟩) fun hz => ?_
  · have hn0 : 0 ≤ (takeTextS b).2.1 ∧ (takeTextS b).2.1 ≤ b.length ∧ (takeTextS b).1.size ≤ 255 := by
      unfold takeTextS
      split
      · exact ⟨by decide, by simp only; omega, by decide⟩
      · rename_i h
        rw [i64_in _ (by omega)] at h
        refine ⟨by simp only; omega, by simp only; omega, ?_⟩
        simp only [size_strOf, List.length_take]
        omega
    obtain ⟨t, ht⟩ : ∃ t, takeTextS b = t := ⟨_, rfl⟩
    obtain ⟨nm, n, ok⟩ := t
    have hent2 : ∀ l0, dirOK l0 → dirL l0 = bl s → ∃ e r, l0 = out ++ e :: r ∧ okE e = true ∧ b = li (entL e ++ dirL r) ∧ nm = e.1 ∧ n = 1 + (e.1.size : Int) := fun l0 h1 h2 => by
      obtain ⟨e, r, e1, e2, e3⟩ := hent l0 h1 h2 hpos
      have := (take_ent e2 (dirL r)).1
      rw [← e3, ht] at this
      injection this with p1 p2
      injection p2 with p2 p3
      exact ⟨e, r, e1, e2, e3, p1, p2⟩
    rw [ht] at hn0 ⊢
    simp only at hn0 ⊢
    obtain ⟨c, rfl⟩ : ∃ c : Nat, n = c := ⟨n.toNat, by omega⟩
    rw [Int.toNat_natCast, take_rest]
    refine ⟨⟨hn0.1, hn0.2.1⟩, br_intro (fun h => ?_) fun h1 => br_intro (fun h => ?_) fun h2 m2 => ?_⟩
    · rw [hno fun l0 q1 q2 => ?_]; exact ⟨rfl, rfl⟩
      obtain ⟨e, r, e1, e2, e3, e4, e5⟩ := hent2 l0 q1 q2
      have h3 := (take_ent e2 (dirL r)).2.1
      rw [← e3, show 1 + e.1.size = c by omega] at h3
      rw [h3] at h; cases h
    · rw [hno fun l0 q1 q2 => ?_]; exact ⟨rfl, rfl⟩
      obtain ⟨e, r, e1, e2, e3, e4, e5⟩ := hent2 l0 q1 q2
      have h : (c : Int) = 0 := by simpa using h
      omega
    · have hc0 : ¬ (c : Int) = 0 := by simpa using h2
      have hk := takeS_true (not_f h1)
      rw [List.length_drop] at hk
      have w : IntKind.i64.wrap ((c : Int) + 1) = ((c + 1 : Nat) : Int) := w_nat rfl (by omega)
      rw [w]
      have hlt : (out.length + 1) * 24 ≤ 140737488355328 := by omega
      have hdl : (b.drop (c + 1)).length = b.length - (c + 1) := List.length_drop
      rw [Int.toNat_natCast, take_rest]
      refine ⟨hlt, ⟨by omega, by omega⟩, _, _, _, ⟨isB_drop hB (c + 1), ?_, ?_, fun l0 q1 q2 => ?_⟩, by omega, rfl, rfl, rfl⟩
      · rw [List.length_append, hdl, List.length_singleton]; omega
      · intro a1 a2 a3 hm
        rcases List.mem_append.1 hm with hm | hm
        · exact hnm _ hm
        · rw [List.mem_singleton] at hm
          injection hm with hm _
          rw [hm]; exact hn0.2.2
      · obtain ⟨e, r, e1, e2, e3, e4, e5⟩ := hent2 l0 q1 q2
        obtain ⟨_, t2, t3, _⟩ := take_ent e2 (dirL r)
        have hc1 : 1 + e.1.size = c := by omega
        rw [← e3] at t2 t3
        rw [hc1] at t2
        rw [show 2 + e.1.size = c + 1 by omega] at t3
        refine ⟨r, ?_, t3.symm⟩
        rw [t2, e4, e1]
        show out ++ e :: r = out ++ [(e.1, e.2.1, ())] ++ r
        rw [List.append_assoc]
        rfl
  · have hbn : b = [] := List.eq_nil_of_length_eq_zero (by omega)
    refine ⟨⟨by omega, fun a1 a2 a3 hm => ?_⟩, ?_⟩
    · have := hnm _ hm
      simp only at this
      omega
    have hno2 : putD out ≠ (s, true) → takeD s = ([], false) := fun h => hno fun l0 q1 q2 => by
      obtain ⟨r, e1, e2⟩ := hall l0 q1 q2
      have hr0 : r = [] := by
        cases r with
        | nil => rfl
        | cons e r =>
          rw [hbn] at e2
          have := congrArg List.length e2
          rw [li_len, dirL_cons, List.length_append, entL_len, List.length_nil] at this
          omega
      rw [hr0, List.append_nil] at e1
      rw [e1] at q1 q2
      exact h (putD_iff.2 ⟨q1, q2⟩)
    refine br_intro (fun h => ?_) fun h => br_intro (fun h2 => ?_) fun h2 => ?_
    · rw [hno2 fun e => by rw [e] at h; cases h]; exact ⟨rfl, rfl⟩
    · rw [hno2 fun e => by rw [e] at h2; exact str_ne h2 rfl]; exact ⟨rfl, rfl⟩
    · have e : putD out = (s, true) := Prod.ext (str_eq h2) (not_f h)
      have ht : takeD s = (out, true) := takeD_iff.2 (putD_iff.1 e)
      rw [ht]; exact ⟨rfl, rfl⟩
theorem dtake_ok : ConOK Tryz.prog 88 dtakeC := by
  refine con_ok tab_ok (Γ := Γdtake) (consOK_cons takeText_ok (consOK_cons take_ok (consOK_cons dput_ok consOK_nil))) (by kernel_rfl) Tryz.func88 (by kernel_rfl) ?_
  intro args out h
  obtain ⟨x, e, h1⟩ := conN_inv h
  clear h
  obtain ⟨s, x0⟩ := x
  subst e
  replace h1 : (if s.size ≤ 100000000000 then some ⟨.tup [⟨.slice (.prod .str (.prod (.int .i64) .unit)), (takeD s).1⟩, ⟨.bool, (takeD s).2⟩], []⟩ else none) = some out := h1
  split at h1
  case isFalse => cases h1
  rename_i hr
  injection h1 with h1
  subst h1
  exact ⟨by rw [mkArgs_len]; decide, dtake_ex s hr⟩
end Go.Proofs.YtodkmhamaahjmaaGreatDoor

/- dir: where a name stands, by the program. -/
set_option maxRecDepth 10000
set_option maxHeartbeats 1000000
set_option linter.unusedSimpArgs false
set_option linter.unusedVariables false
set_option pp.deepTerms.threshold 14
namespace Go.Proofs.YtodkmhamaahjmaaGreatDoor
open Go.Tm Go.IntWalk
def cmpS (a b : ByteArray) : Int := if ltB a b = true then -1 else if ltB b a = true then 1 else 0
/-- The contract of cmp.isNaN[string]. -/
def dnanC : Con := conN [(.v, .str)] fun (s, _) => some ⟨.val ⟨.bool, false⟩, []⟩
theorem dnanC_eq {s : ByteArray} : dnanC [.val ⟨.str, s⟩] = some ⟨.val ⟨.bool, false⟩, []⟩ := conN_mk (ks := [(.v, .str)]) (s, ())
def Γdnan : Cons := cons []
theorem dnan_ex (s : ByteArray) : Ex tab Γdnan (Tryz.f115.body.getD .skip) (EndsF tab Tryz.f115.results.toList [.val ⟨.str, s⟩] ⟨.val ⟨.bool, false⟩, []⟩) (ini [.val ⟨.str, s⟩]) := by
  simp only [Tryz.f115, Option.getD_some]
  simp (implicitDefEqProofs := false) (decide := true) (maxSteps := 4000000) [ini]
theorem dnan_ok : ConOK Tryz.prog 115 dnanC := by
  refine con_ok tab_ok (Γ := Γdnan) consOK_nil (by kernel_rfl) Tryz.func115 (by kernel_rfl) ?_
  intro args out h
  obtain ⟨x, e, h1⟩ := conN_inv h
  clear h
  obtain ⟨s, x0⟩ := x
  subst e
  replace h1 : (some ⟨.val ⟨.bool, false⟩, []⟩) = some out := h1
  injection h1 with h1
  subst h1
  exact ⟨by rw [mkArgs_len]; decide, dnan_ex s⟩
/-- The contract of cmp.Compare[string]. -/
def dcmpC : Con := conN [(.v, .str), (.v, .str)] fun (a, b, _) => some ⟨.val ⟨.int .i64, cmpS a b⟩, []⟩
theorem dcmpC_eq {a : ByteArray} {b : ByteArray} : dcmpC [.val ⟨.str, a⟩, .val ⟨.str, b⟩] = some ⟨.val ⟨.int .i64, cmpS a b⟩, []⟩ := conN_mk (ks := [(.v, .str), (.v, .str)]) (a, b, ())
def Γdcmp : Cons := cons [(115, dnanC)]
theorem dcmp_ex (a : ByteArray) (b : ByteArray) : Ex tab Γdcmp (Tryz.f103.body.getD .skip) (EndsF tab Tryz.f103.results.toList [.val ⟨.str, a⟩, .val ⟨.str, b⟩] ⟨.val ⟨.int .i64, cmpS a b⟩, []⟩) (ini [.val ⟨.str, a⟩, .val ⟨.str, b⟩]) := by
  have g_dnan : Γdcmp 115 = some dnanC := rfl
  simp only [Tryz.f103, Option.getD_some]
  simp (implicitDefEqProofs := false) (decide := true) (maxSteps := 4000000) [ini, g_dnan, dnanC_eq]
  have hl : Op.bytesLess a.toList b.toList = ltB a b := by rw [toList_bl, toList_bl]; rfl
  rw [hl]
  refine br_intro (fun h => ?_) fun h => br_intro (fun h2 => ?_) fun h2 => ?_
  · rw [cmpS, if_pos h]
  · rw [h, Bool.not_false, Bool.true_and] at h2
    have hne := str_ne h2
    rw [cmpS, if_neg (by rw [h]; decide), if_pos ((ltB_tri h).resolve_left hne)]
  · rw [h, Bool.not_false, Bool.true_and] at h2
    have he := str_eq h2
    rw [cmpS, if_neg (by rw [h]; decide), if_neg (by rw [he, ltB_irrefl]; decide)]
theorem dcmp_ok : ConOK Tryz.prog 103 dcmpC := by
  refine con_ok tab_ok (Γ := Γdcmp) (consOK_cons dnan_ok consOK_nil) (by kernel_rfl) Tryz.func103 (by kernel_rfl) ?_
  intro args out h
  obtain ⟨x, e, h1⟩ := conN_inv h
  clear h
  obtain ⟨a, b, x0⟩ := x
  subst e
  replace h1 : (some ⟨.val ⟨.int .i64, cmpS a b⟩, []⟩) = some out := h1
  injection h1 with h1
  subst h1
  exact ⟨by rw [mkArgs_len]; decide, dcmp_ex a b⟩
/-- The contract of dir.place$1. -/
def dplace1C : Con := conN [(.v, EntT), (.v, .str)] fun (e, s, _) => some ⟨.val ⟨.int .i64, cmpS e.1 s⟩, []⟩
theorem dplace1C_eq {e : Ty.den (EntT)} {s : ByteArray} : dplace1C [.val ⟨EntT, e⟩, .val ⟨.str, s⟩] = some ⟨.val ⟨.int .i64, cmpS e.1 s⟩, []⟩ := conN_mk (ks := [(.v, EntT), (.v, .str)]) (e, s, ())
def Γdplace1 : Cons := cons [(103, dcmpC)]
theorem dplace1_ex (e : Ty.den (EntT)) (s : ByteArray) : Ex tab Γdplace1 (Tryz.f102.body.getD .skip) (EndsF tab Tryz.f102.results.toList [.val ⟨EntT, e⟩, .val ⟨.str, s⟩] ⟨.val ⟨.int .i64, cmpS e.1 s⟩, []⟩) (ini [.val ⟨EntT, e⟩, .val ⟨.str, s⟩]) := by
  have g_dcmp : Γdplace1 103 = some dcmpC := rfl
  simp only [Tryz.f102, Option.getD_some]
  simp (implicitDefEqProofs := false) (decide := true) (maxSteps := 4000000) [ini, g_dcmp, dcmpC_eq]
theorem dplace1_ok : ConOK Tryz.prog 102 dplace1C := by
  refine con_ok tab_ok (Γ := Γdplace1) (consOK_cons dcmp_ok consOK_nil) (by kernel_rfl) Tryz.func102 (by kernel_rfl) ?_
  intro args out h
  obtain ⟨x, e, h1⟩ := conN_inv h
  clear h
  obtain ⟨e, s, x0⟩ := x
  subst e
  replace h1 : (some ⟨.val ⟨.int .i64, cmpS e.1 s⟩, []⟩) = some out := h1
  injection h1 with h1
  subst h1
  exact ⟨by rw [mkArgs_len]; decide, dplace1_ex e s⟩
/-- Where a name stands, or would. -/
def posD (l : List Ent) (nm : ByteArray) : Nat := (l.takeWhile fun e => ltB e.1 nm).length
def atD (l : List Ent) (nm : ByteArray) : Bool := decide (posD l nm < l.length) && (cmpS (l.getD (posD l nm) dfltE).1 nm == 0)
theorem posD_of {l : List Ent} {nm : ByteArray} {i : Nat} (hi : i ≤ l.length) (h1 : ∀ k, (hk : k < l.length) → k < i → ltB (l[k]).1 nm = true) (h2 : (hi : i < l.length) → ltB (l[i]).1 nm = false) : posD l nm = i := by
  have e : l.takeWhile (fun e => ltB e.1 nm) = l.take i := by
    rw [← List.take_append_drop i l]
    rw [List.takeWhile_append_of_pos (fun a ha => ?_)]
    · rcases Nat.lt_or_ge i l.length with h | h
      · rw [List.drop_eq_getElem_cons h, List.takeWhile_cons_of_neg (by rw [h2 h]; decide), List.append_nil, ← List.drop_eq_getElem_cons h, List.take_append_drop]
      · rw [List.drop_eq_nil_of_le h, List.takeWhile_nil, List.append_nil, List.take_take, Nat.min_self]
    · obtain ⟨k, hk, rfl⟩ := List.getElem_of_mem ha
      rw [List.length_take] at hk
      rw [List.getElem_take]
      exact h1 k (by omega) (by omega)
  rw [posD, e, List.length_take]
  omega
/-- The contract of slices.BinarySearchFunc[[]api.Entry,api.Entry,string]. -/
def dbinC : Con := conF [(.v, .slice EntT), (.v, .str), (.c 102 [], .unit)] fun (l, nm, _, _) => if Rises l ∧ l.length ≤ 1000000000000 then some ⟨.tup [⟨.int .i64, (posD l nm : Int)⟩, ⟨.bool, atD l nm⟩], []⟩ else none
theorem dbinC_eq {l : List (Ty.den (EntT))} {nm : ByteArray} : dbinC [.val ⟨.slice EntT, l⟩, .val ⟨.str, nm⟩, .clo 102 []] = if Rises l ∧ l.length ≤ 1000000000000 then some ⟨.tup [⟨.int .i64, (posD l nm : Int)⟩, ⟨.bool, atD l nm⟩], []⟩ else none := conF_mk (ks := [(.v, .slice EntT), (.v, .str), (.c 102 [], .unit)]) (l, nm, (), ())
def Γdbin : Cons := cons [(102, dplace1C)]
theorem dbin_ex (l : List (Ty.den (EntT))) (nm : ByteArray) (hr : Rises l ∧ l.length ≤ 1000000000000) : Ex tab Γdbin (Tryz.f101.body.getD .skip) (EndsF tab Tryz.f101.results.toList [.val ⟨.slice EntT, l⟩, .val ⟨.str, nm⟩, .clo 102 []] ⟨.tup [⟨.int .i64, (posD l nm : Int)⟩, ⟨.bool, atD l nm⟩], []⟩) (ini [.val ⟨.slice EntT, l⟩, .val ⟨.str, nm⟩, .clo 102 []]) := by
  have g_dplace1 : Γdbin 102 = some dplace1C := rfl
  simp only [Tryz.f101, Option.getD_some]
  simp (implicitDefEqProofs := false) (decide := true) (maxSteps := 4000000) [ini, g_dplace1, dplace1C_eq]
  obtain ⟨hri, hlen⟩ := hr
  intro _
  refine ex_loopU (σ := Nat × Nat) [9, 10, 11, 15, 16, 17, 18, 19, 20, 21, 22, 23, 24, 25, 26, 27, 28, 29, 30, 31, 32, 33, 34] (fun a => [(9, .val (.int .i64) (a.1 : Int)), (10, .val (.int .i64) (a.2 : Int))])
    (fun a => a.1 ≤ a.2 ∧ a.2 ≤ l.length ∧ (∀ k, (hk : k < l.length) → k < a.1 → ltB (l[k]).1 nm = true) ∧ (∀ k, (hk : k < l.length) → a.2 ≤ k → ltB (l[k]).1 nm = false)) (fun a => a.2 - a.1) (0, l.length) ⟨Nat.zero_le _, Nat.le_refl _, fun k _ h => absurd h (by omega), fun k h h2 => absurd h (by omega)⟩ (hc rfl (hc rfl hn)) ?_
  rintro j ⟨x, y⟩ ⟨hxy, hy, hlo, hhi⟩
  simp only at hxy hy hlo hhi
  simp (implicitDefEqProofs := false) (decide := true) (maxSteps := 4000000) [ini, g_dplace1, dplace1C_eq]
  have h1 : IntKind.i64.wrap ((x : Int) + (y : Int)) = ((x + y : Nat) : Int) := w_nat (by omega) (by omega)
  have h2 : IntKind.u64.wrap ((x + y : Nat) : Int) = ((x + y : Nat) : Int) := by rw [IntKind.wrap_u64]; omega
  have h3 : ((x + y : Nat) : Int).fdiv 2 = (((x + y) / 2 : Nat) : Int) := by rw [Int.fdiv_eq_ediv_of_nonneg _ (by decide)]; omega
  obtain ⟨m, hm⟩ : ∃ m, (x + y) / 2 = m := ⟨_, rfl⟩
  have h4 : IntKind.i64.wrap (((m : Nat) : Int)) = (m : Int) := w_nat rfl (by omega)
  have h5 : IntKind.i64.wrap ((m : Int) + 1) = ((m + 1 : Nat) : Int) := w_nat (by omega) (by omega)
  rw [h1, h2, h3, hm, h4, h5, Int.toNat_natCast]
  refine br_dec (fun hlt => ?_) fun hge => ?_
  · have hml : m < l.length := by omega
    have hg : l[m]?.getD (({ data := #[] }, 0, ()) : Ent) = l[m] := by rw [List.getElem?_eq_getElem hml]; rfl
    rw [hg]
    have hmm : x ≤ m ∧ m < y := by omega
    refine ⟨⟨by omega, by omega⟩, br_dec (fun h => ?_) fun h => ?_⟩
    · have hlt2 : ltB (l[m]).1 nm = true := by
        rcases Bool.eq_false_or_eq_true (ltB (l[m]).1 nm) with e | e
        · exact e
        · rw [cmpS, if_neg (by rw [e]; decide)] at h
          split at h <;> exact absurd h (by decide)
      refine ⟨m + 1, y, ⟨by omega, hy, fun k hk hk2 => ?_, hhi⟩, by omega, rfl, rfl⟩
      rcases Nat.lt_or_ge k m with h6 | h6
      · exact ltB_trans (List.pairwise_iff_getElem.1 hri k m hk hml h6) hlt2
      · obtain rfl : k = m := by omega
        exact hlt2
    · have hlt2 : ltB (l[m]).1 nm = false := by
        rcases Bool.eq_false_or_eq_true (ltB (l[m]).1 nm) with e | e
        · rw [cmpS, if_pos e] at h; exact absurd (show (-1 : Int) < 0 by decide) h
        · exact e
      refine ⟨x, m, ⟨by omega, by omega, hlo, fun k hk hk2 => ?_⟩, by omega, rfl, rfl⟩
      rcases Nat.lt_or_ge m k with h6 | h6
      · cases e : ltB (l[k]).1 nm with
        | false => rfl
        | true =>
          have := ltB_trans (List.pairwise_iff_getElem.1 hri m k hml hk h6) e
          rw [hlt2] at this; cases this
      · obtain rfl : k = m := by omega
        exact hlt2
  · obtain rfl : x = y := by omega
    have hp : posD l nm = x := posD_of hy hlo fun h => hhi x h (Nat.le_refl _)
    refine br_dec (fun hlt => ?_) fun hge => ?_
    · refine ⟨hlt, by rw [hp], ?_⟩
      rw [atD, hp, decide_eq_true hlt, Bool.true_and, List.getD_eq_getElem?_getD]
      rfl
    · exact ⟨by rw [hp], by rw [atD, hp, decide_eq_false hge, Bool.false_and]⟩
theorem dbin_ok : ConOK Tryz.prog 101 dbinC := by
  refine con_ok tab_ok (Γ := Γdbin) (consOK_cons dplace1_ok consOK_nil) (by kernel_rfl) Tryz.func101 (by kernel_rfl) ?_
  intro args out h
  obtain ⟨x, e, h1⟩ := conF_inv h
  clear h
  obtain ⟨l, nm, x00, x0⟩ := x
  subst e
  replace h1 : (if Rises l ∧ l.length ≤ 1000000000000 then some ⟨.tup [⟨.int .i64, (posD l nm : Int)⟩, ⟨.bool, atD l nm⟩], []⟩ else none) = some out := h1
  split at h1
  case isFalse => cases h1
  rename_i hr
  injection h1 with h1
  subst h1
  exact ⟨by rw [mkArgs2_len]; decide, dbin_ex l nm hr⟩
/-- The contract of dir.place. -/
def dplaceC : Con := conN [(.v, .slice EntT), (.v, .str)] fun (l, nm, _) => if Rises l ∧ l.length ≤ 1000000000000 then some ⟨.tup [⟨.int .i64, (posD l nm : Int)⟩, ⟨.bool, atD l nm⟩], []⟩ else none
theorem dplaceC_eq {l : List (Ty.den (EntT))} {nm : ByteArray} : dplaceC [.val ⟨.slice EntT, l⟩, .val ⟨.str, nm⟩] = if Rises l ∧ l.length ≤ 1000000000000 then some ⟨.tup [⟨.int .i64, (posD l nm : Int)⟩, ⟨.bool, atD l nm⟩], []⟩ else none := conN_mk (ks := [(.v, .slice EntT), (.v, .str)]) (l, nm, ())
def Γdplace : Cons := cons [(101, dbinC)]
theorem dplace_ex (l : List (Ty.den (EntT))) (nm : ByteArray) (hr : Rises l ∧ l.length ≤ 1000000000000) : Ex tab Γdplace (Tryz.f87.body.getD .skip) (EndsF tab Tryz.f87.results.toList [.val ⟨.slice EntT, l⟩, .val ⟨.str, nm⟩] ⟨.tup [⟨.int .i64, (posD l nm : Int)⟩, ⟨.bool, atD l nm⟩], []⟩) (ini [.val ⟨.slice EntT, l⟩, .val ⟨.str, nm⟩]) := by
  have g_dbin : Γdplace 101 = some dbinC := rfl
  simp only [Tryz.f87, Option.getD_some]
  simp (implicitDefEqProofs := false) (decide := true) (maxSteps := 4000000) [ini, g_dbin, dbinC_eq]
  exact hr
theorem dplace_ok : ConOK Tryz.prog 87 dplaceC := by
  refine con_ok tab_ok (Γ := Γdplace) (consOK_cons dbin_ok consOK_nil) (by kernel_rfl) Tryz.func87 (by kernel_rfl) ?_
  intro args out h
  obtain ⟨x, e, h1⟩ := conN_inv h
  clear h
  obtain ⟨l, nm, x0⟩ := x
  subst e
  replace h1 : (if Rises l ∧ l.length ≤ 1000000000000 then some ⟨.tup [⟨.int .i64, (posD l nm : Int)⟩, ⟨.bool, atD l nm⟩], []⟩ else none) = some out := h1
  split at h1
  case isFalse => cases h1
  rename_i hr
  injection h1 with h1
  subst h1
  exact ⟨by rw [mkArgs_len]; decide, dplace_ex l nm hr⟩
theorem posD_spec (l : List Ent) (nm : ByteArray) : posD l nm ≤ l.length ∧ (∀ k, (hk : k < l.length) → k < posD l nm → ltB (l[k]).1 nm = true) ∧ ((h : posD l nm < l.length) → ltB (l[posD l nm]).1 nm = false) := by
  induction l with
  | nil => exact ⟨Nat.le_refl _, fun k hk => absurd hk (Nat.not_lt_zero _), fun h => absurd h (Nat.not_lt_zero _)⟩
  | cons x r ih =>
    obtain ⟨i1, i2, i3⟩ := ih
    cases hx : ltB x.1 nm with
    | true =>
      have e : posD (x :: r) nm = posD r nm + 1 := by rw [posD, List.takeWhile_cons_of_pos (by exact hx)]; rfl
      rw [e]
      refine ⟨by simpa using i1, fun k hk hk2 => ?_, fun h => ?_⟩
      · cases k with
        | zero => exact hx
        | succ k => exact i2 k (by simpa using hk) (by omega)
      · simp only [List.getElem_cons_succ]
        exact i3 (by simpa using h)
    | false =>
      have e : posD (x :: r) nm = 0 := by rw [posD, List.takeWhile_cons_of_neg (by rw [hx]; decide)]; rfl
      rw [e]
      exact ⟨Nat.zero_le _, fun k _ h => absurd h (Nat.not_lt_zero _), fun _ => hx⟩
theorem cmpS_zero {a b : ByteArray} : cmpS a b = 0 ↔ a = b := by
  unfold cmpS
  constructor
  · intro h
    split at h
    · cases h
    · rename_i h1
      split at h
      · cases h
      · rename_i h2
        exact (ltB_tri (by simpa using h1)).resolve_right h2
  · rintro rfl
    rw [if_neg (by rw [ltB_irrefl]; decide), if_neg (by rw [ltB_irrefl]; decide)]
theorem atD_iff {l : List Ent} {nm : ByteArray} : atD l nm = true ↔ ∃ h : posD l nm < l.length, (l[posD l nm]).1 = nm := by
  rw [atD, Bool.and_eq_true, decide_eq_true_eq, beq_iff_eq, cmpS_zero]
  constructor
  · rintro ⟨h, e⟩
    rw [List.getD_eq_getElem?_getD, List.getElem?_eq_getElem h] at e
    exact ⟨h, e⟩
  · rintro ⟨h, e⟩
    rw [List.getD_eq_getElem?_getD, List.getElem?_eq_getElem h]
    exact ⟨h, e⟩
theorem find_yes {l : List Ent} {nm : ByteArray} (hr : Rises l) (h : atD l nm = true) : ∃ hp : posD l nm < l.length, (l[posD l nm]).1 = nm ∧ findD l nm = ((l[posD l nm]).2.1, true) := by
  obtain ⟨hp, e⟩ := atD_iff.1 h
  obtain ⟨s1, s2, s3⟩ := posD_spec l nm
  refine ⟨hp, e, ?_⟩
  have : l.find? (fun x => eqB x.1 nm) = some l[posD l nm] := List.find?_eq_some_iff_getElem.2 ⟨by rw [e]; exact eqB_refl nm, posD l nm, hp, rfl, fun j hj => by
    rw [eqB_ne (ltB_ne (s2 j (by omega) hj))]; rfl⟩
  rw [findD, this]
theorem find_none_at {l : List Ent} {nm : ByteArray} (hr : Rises l) (h : atD l nm = false) : ∀ x ∈ l, x.1 ≠ nm := by
  obtain ⟨s1, s2, s3⟩ := posD_spec l nm
  intro x hx
  obtain ⟨k, hk, rfl⟩ := List.getElem_of_mem hx
  rcases Nat.lt_trichotomy k (posD l nm) with h1 | h1 | h1
  · exact ltB_ne (s2 k hk h1)
  · subst h1
    intro e
    rw [atD_iff.2 ⟨hk, e⟩] at h; cases h
  · have hp : posD l nm < l.length := by omega
    have hne : (l[posD l nm]).1 ≠ nm := fun e => by rw [atD_iff.2 ⟨hp, e⟩] at h; cases h
    have h3 := (ltB_tri (s3 hp)).resolve_left hne
    exact (ltB_ne (ltB_trans h3 (List.pairwise_iff_getElem.1 hr _ _ hp hk h1))).symm
theorem find_no {l : List Ent} {nm : ByteArray} (hr : Rises l) (h : atD l nm = false) : findD l nm = (0, false) := by
  have : l.find? (fun x => eqB x.1 nm) = none := List.find?_eq_none.2 fun x hx => by rw [eqB_ne (find_none_at hr h x hx)]; decide
  rw [findD, this]
theorem find_at {l : List Ent} {nm : ByteArray} (hr : Rises l) : (findD l nm).2 = atD l nm := by
  cases h : atD l nm with
  | true =>
    obtain ⟨hp, _, h2⟩ := find_yes hr h
    rw [h2]
  | false => rw [find_no hr h]
theorem ins_at {l : List Ent} {e : Ent} (h : ∀ x ∈ l, x.1 ≠ e.1) : insD e l = l.take (posD l e.1) ++ e :: l.drop (posD l e.1) := by
  induction l with
  | nil => rfl
  | cons x r ih =>
    have ih := ih fun y hy => h y (by simp [hy])
    cases hx : ltB x.1 e.1 with
    | true =>
      have e1 : posD (x :: r) e.1 = posD r e.1 + 1 := by rw [posD, List.takeWhile_cons_of_pos (by exact hx)]; rfl
      rw [e1, insD, if_neg (by rw [ltB_asymm hx]; decide), ih]
      rfl
    | false =>
      have e1 : posD (x :: r) e.1 = 0 := by rw [posD, List.takeWhile_cons_of_neg (by rw [hx]; decide)]; rfl
      rw [e1, insD, if_pos ((ltB_tri hx).resolve_left (h x (by simp)))]
      rfl
theorem less_at {l : List Ent} {nm : ByteArray} (hr : Rises l) (h : atD l nm = true) : l.filter (fun e => !eqB e.1 nm) = l.take (posD l nm) ++ l.drop (posD l nm + 1) := by
  obtain ⟨hp, e⟩ := atD_iff.1 h
  obtain ⟨s1, s2, s3⟩ := posD_spec l nm
  have e0 : l = l.take (posD l nm) ++ l[posD l nm] :: l.drop (posD l nm + 1) := by rw [← List.drop_eq_getElem_cons hp, List.take_append_drop]
  have f1 : (l.take (posD l nm)).filter (fun e => !eqB e.1 nm) = l.take (posD l nm) := List.filter_eq_self.2 fun x hx => by
    obtain ⟨k, hk, rfl⟩ := List.getElem_of_mem hx
    rw [List.length_take] at hk
    rw [List.getElem_take, eqB_ne (ltB_ne (s2 k (by omega) (by omega)))]; rfl
  have f2 : (l.drop (posD l nm + 1)).filter (fun e => !eqB e.1 nm) = l.drop (posD l nm + 1) := List.filter_eq_self.2 fun x hx => by
    obtain ⟨k, hk, rfl⟩ := List.getElem_of_mem hx
    rw [List.length_drop] at hk
    rw [List.getElem_drop]
    have := List.pairwise_iff_getElem.1 hr (posD l nm) (posD l nm + 1 + k) hp (by omega) (by omega)
    rw [e] at this
    rw [eqB_ne (ltB_ne this).symm]; rfl
  conv => lhs; rw [e0]
  rw [List.filter_append, f1, List.filter_cons_of_neg (by rw [e, eqB_refl]; decide), f2]
/-- The contract of dir.Find. -/
def dfindDC : Con := conN [(.v, .slice EntT), (.v, .str)] fun (l, nm, _) => if Rises l ∧ l.length ≤ 1000000000000 then some ⟨.tup [⟨.int .i64, (findD l nm).1⟩, ⟨.bool, (findD l nm).2⟩], []⟩ else none
theorem dfindDC_eq {l : List (Ty.den (EntT))} {nm : ByteArray} : dfindDC [.val ⟨.slice EntT, l⟩, .val ⟨.str, nm⟩] = if Rises l ∧ l.length ≤ 1000000000000 then some ⟨.tup [⟨.int .i64, (findD l nm).1⟩, ⟨.bool, (findD l nm).2⟩], []⟩ else none := conN_mk (ks := [(.v, .slice EntT), (.v, .str)]) (l, nm, ())
def ΓdfindD : Cons := cons [(87, dplaceC)]
theorem dfindD_ex (l : List (Ty.den (EntT))) (nm : ByteArray) (hr : Rises l ∧ l.length ≤ 1000000000000) : Ex tab ΓdfindD (Tryz.f64.body.getD .skip) (EndsF tab Tryz.f64.results.toList [.val ⟨.slice EntT, l⟩, .val ⟨.str, nm⟩] ⟨.tup [⟨.int .i64, (findD l nm).1⟩, ⟨.bool, (findD l nm).2⟩], []⟩) (ini [.val ⟨.slice EntT, l⟩, .val ⟨.str, nm⟩]) := by
  have g_dplace : ΓdfindD 87 = some dplaceC := rfl
  simp only [Tryz.f64, Option.getD_some]
  simp (implicitDefEqProofs := false) (decide := true) (maxSteps := 4000000) [ini, g_dplace, dplaceC_eq]
  refine ⟨hr, br_intro (fun h => ?_) fun h => ?_⟩
  · rw [find_no hr.1 (by simpa using h)]; exact ⟨rfl, rfl⟩
  · have h : atD l nm = true := by simpa using h
    obtain ⟨hp, h1, h2⟩ := find_yes hr.1 h
    rw [h2]
    refine ⟨hp, ?_, rfl⟩
    rw [List.getElem?_eq_getElem hp]; rfl
theorem dfindD_ok : ConOK Tryz.prog 64 dfindDC := by
  refine con_ok tab_ok (Γ := ΓdfindD) (consOK_cons dplace_ok consOK_nil) (by kernel_rfl) Tryz.func64 (by kernel_rfl) ?_
  intro args out h
  obtain ⟨x, e, h1⟩ := conN_inv h
  clear h
  obtain ⟨l, nm, x0⟩ := x
  subst e
  replace h1 : (if Rises l ∧ l.length ≤ 1000000000000 then some ⟨.tup [⟨.int .i64, (findD l nm).1⟩, ⟨.bool, (findD l nm).2⟩], []⟩ else none) = some out := h1
  split at h1
  case isFalse => cases h1
  rename_i hr
  injection h1 with h1
  subst h1
  exact ⟨by rw [mkArgs_len]; decide, dfindD_ex l nm hr⟩
/-- The contract of slices.Clone[[]api.Entry,api.Entry]. -/
def dcloneEC : Con := conN [(.v, .slice EntT)] fun (l, _) => if l.length ≤ 1000000000000 then some ⟨.own EntT l, []⟩ else none
theorem dcloneEC_eq {l : List (Ty.den (EntT))} : dcloneEC [.val ⟨.slice EntT, l⟩] = if l.length ≤ 1000000000000 then some ⟨.own EntT l, []⟩ else none := conN_mk (ks := [(.v, .slice EntT)]) (l, ())
def ΓdcloneE : Cons := cons []
theorem dcloneE_ex (l : List (Ty.den (EntT))) (hr : l.length ≤ 1000000000000) : Ex tab ΓdcloneE (Tryz.f89.body.getD .skip) (EndsF tab Tryz.f89.results.toList [.val ⟨.slice EntT, l⟩] ⟨.own EntT l, []⟩) (ini [.val ⟨.slice EntT, l⟩]) := by
  simp only [Tryz.f89, Option.getD_some]
  simp (implicitDefEqProofs := false) (decide := true) (maxSteps := 4000000) [ini]
  omega
theorem dcloneE_ok : ConOK Tryz.prog 89 dcloneEC := by
  refine con_ok tab_ok (Γ := ΓdcloneE) consOK_nil (by kernel_rfl) Tryz.func89 (by kernel_rfl) ?_
  intro args out h
  obtain ⟨x, e, h1⟩ := conN_inv h
  clear h
  obtain ⟨l, x0⟩ := x
  subst e
  replace h1 : (if l.length ≤ 1000000000000 then some ⟨.own EntT l, []⟩ else none) = some out := h1
  split at h1
  case isFalse => cases h1
  rename_i hr
  injection h1 with h1
  subst h1
  exact ⟨by rw [mkArgs_len]; decide, dcloneE_ex l hr⟩
end Go.Proofs.YtodkmhamaahjmaaGreatDoor

/- The reference's names in a folder, walked. -/
set_option maxRecDepth 100000
set_option maxHeartbeats 1000000
set_option linter.unusedSimpArgs false
set_option linter.unusedVariables false
set_option pp.deepTerms.threshold 60
namespace Go.Proofs.YtodkmhamaahjmaaGreatDoor
open Go.Tm Go.IntWalk

theorem rise_take {l : List Ent} (h : Rise1 l) (k : Nat) : Rise1 (l.take k) := fun i hi => by
  have hi' : i + 1 < l.length := by rw [List.length_take] at hi; omega
  have := h i hi'
  simpa using this
/-- The contract of glacisref6.PutDir. -/
def rputDC : Con := conN [(.v, .slice EntT)] fun (l, _) => if ∀ e ∈ l, e.1.size ≤ 4000000000 then some ⟨.tup [⟨.str, (putD l).1⟩, ⟨.bool, (putD l).2⟩], []⟩ else none
theorem rputDC_eq {l : List (Ty.den (EntT))} : rputDC [.val ⟨.slice EntT, l⟩] = if ∀ e ∈ l, e.1.size ≤ 4000000000 then some ⟨.tup [⟨.str, (putD l).1⟩, ⟨.bool, (putD l).2⟩], []⟩ else none := conN_mk (ks := [(.v, .slice EntT)]) (l, ())
def ΓrputD : Cons := cons [(70, rownC)]
theorem rputD_ex (l : List (Ty.den (EntT))) (hr : ∀ e ∈ l, e.1.size ≤ 4000000000) : Ex tab ΓrputD (Tryz.f73.body.getD .skip) (EndsF tab Tryz.f73.results.toList [.val ⟨.slice EntT, l⟩] ⟨.tup [⟨.str, (putD l).1⟩, ⟨.bool, (putD l).2⟩], []⟩) (ini [.val ⟨.slice EntT, l⟩]) := by
  have g_rown : ΓrputD 70 = some rownC := rfl
  simp only [Tryz.f73, Option.getD_some]
  simp (implicitDefEqProofs := false) (decide := true) (maxSteps := 4000000) [ini, g_rown, rownC_eq]
  refine ex_loopU (σ := Nat × ByteArray) [2, 3, 4, 5, 6, 7, 8, 9, 10, 11, 12, 13, 14, 15, 16, 17, 18, 19, 20, 21, 22, 23, 24, 25, 26, 27, 28, 29, 30, 31, 32, 33, 34, 35, 36, 37, 38, 39, 40, 41, 42, 43, 44, 45, 46, 47, 48, 49, 50, 51, 52, 53, 54, 55, 56, 57, 58, 59, 60, 61, 62, 63, 64, 65, 66, 67] (fun a => [(5, .val (.int .i64) (a.1 : Int)), (4, .val .str a.2)])
    (fun a => a.1 ≤ l.length ∧ (∀ e ∈ l.take a.1, okE e = true) ∧ (∀ k, k + 1 < a.1 → ltB (l.getD k dfltE).1 (l.getD (k + 1) dfltE).1 = true) ∧ a.2.size ≤ 130 ∧ bl a.2 = dirL (l.take a.1)) (fun a => l.length - a.1) (0, no) ⟨Nat.zero_le _, by simp, fun k h => by omega, by decide, rfl⟩ (hc rfl (hc rfl hn)) ?_
  rintro j ⟨i, s⟩ ⟨hi, hok, hri, hsz, hs⟩
  simp only at hi hok hri hsz hs
  simp (implicitDefEqProofs := false) (decide := true) (maxSteps := 4000000) [ini, g_rown, rownC_eq]
  intro hml
  have hml : l.length ≤ 9223372036854775807 := hml
  refine br_dec (fun hlt => ?_) fun hge => ?_
  · obtain ⟨e, he⟩ : ∃ e : Ent, l[i] = e := ⟨_, rfl⟩
    have hg : l[i]?.getD dfltE = e := by rw [List.getElem?_eq_getElem hlt, he]; rfl
    have hmem : e ∈ l := by rw [← he]; exact List.getElem_mem hlt
    have htk : l.take (i + 1) = l.take i ++ [e] := by rw [List.take_succ_eq_append_getElem hlt, he]
    have hes := hr e hmem
    rw [show l[i]?.getD (({ data := #[] }, 0, ()) : Ent) = e from hg]
    have hbad : okE e = false → putD l = (no, false) := fun h => putD_no fun hd => by rw [hd.1 e hmem] at h; cases h
    have hlong : 120 < s.size → putD l = (no, false) := fun h => putD_no fun hd => by
      have h1 := hd.2.2
      have h2 : dirL l = dirL (l.take i) ++ dirL (l.drop i) := by rw [← dirL_append, List.take_append_drop]
      rw [h2, ← hs, List.length_append, ← bl_size] at h1
      omega
    have fin : okE e = true → (∀ k, k + 1 < i + 1 → ltB (l.getD k dfltE).1 (l.getD (k + 1) dfltE).1 = true) → br (decide (120 < (s.size : Int))) (no = (putD l).1 ∧ (putD l).2 = false)
        ((s.size : Int) + ((strOf [IntKind.u8.wrap (e.1.size : Int)]).size : Int) ≤ 9223372036854775807 ∧ (s.size : Int) + ((strOf [IntKind.u8.wrap (e.1.size : Int)]).size : Int) + (e.1.size : Int) ≤ 9223372036854775807 ∧
          (s.size : Int) + ((strOf [IntKind.u8.wrap (e.1.size : Int)]).size : Int) + (e.1.size : Int) + ((strOf [IntKind.u8.wrap e.2.1]).size : Int) ≤ 9223372036854775807 ∧
          ∃ a b, (a ≤ l.length ∧ (∀ (a_1 : Ty.str.den) (a_2 : (Ty.int IntKind.i64).den) (b : Ty.unit.den), (a_1, a_2, b) ∈ List.take a l → okE (a_1, a_2, b) = true) ∧ (∀ (k : Nat), k + 1 < a → ltB (l[k]?.getD dfltE).1 (l[k + 1]?.getD dfltE).1 = true) ∧ b.size ≤ 130 ∧ bl b = dirL (List.take a l)) ∧
            l.length - a < l.length - i ∧ IntKind.i64.wrap ((i : Int) + 1) = (a : Int) ∧ s ++ strOf [IntKind.u8.wrap (e.1.size : Int)] ++ e.1 ++ strOf [IntKind.u8.wrap e.2.1] = b) := by
      intro ho hri2
      obtain ⟨o1, o2, o3⟩ := okE_out ho
      obtain ⟨o4, o5⟩ := ownS_size o1
      have s1 : ∀ z : Int, (strOf [z]).size = 1 := fun z => by rw [size_strOf]; rfl
      have hx : bl (s ++ strOf [IntKind.u8.wrap (e.1.size : Int)] ++ e.1 ++ strOf [IntKind.u8.wrap e.2.1]) = dirL (l.take (i + 1)) := by
        rw [bl_append, bl_append, bl_append, hs, htk, dirL_append, bl_strOf, bl_strOf, wrap_u8_nat]
        obtain ⟨n, hn⟩ : ∃ n : Nat, (e.2.1 : Int) = n := ⟨e.2.1.toNat, by omega⟩
        have hw : IntKind.u8.wrap e.2.1 = e.2.1 := by rw [hn, wrap_u8_nat]; omega
        rw [hw, Nat.mod_eq_of_lt (by omega)]
        simp [dirL, entL]
      refine br_dec (fun h => ?_) fun h => ?_
      · rw [hlong (by omega)]; exact ⟨rfl, rfl⟩
      · rw [s1, s1]
        refine ⟨by omega, by omega, by omega, i + 1, _, ⟨hlt, ?_, fun k hk => ?_, ?_, hx⟩, by omega, w_nat rfl (by omega), rfl⟩
        · intro a b u hm
          rw [htk, List.mem_append, List.mem_singleton] at hm
          rcases hm with hm | hm
          · exact hok _ hm
          · rw [hm]; exact ho
        · have := hri2 k hk
          rw [List.getD_eq_getElem?_getD, List.getD_eq_getElem?_getD] at this
          exact this
        · rw [ByteArray.size_append, ByteArray.size_append, ByteArray.size_append, s1, s1]; omega
    refine ⟨hlt, by omega, br_intro (fun h => ?_) fun h1 => br_dec (fun h => ?_) fun h2 => br_dec (fun h => ?_) fun h3 => ?_⟩
    · rw [hbad (by rw [okE, show ownS e.1 = false by simpa using h]; rfl)]; exact ⟨rfl, rfl⟩
    · rw [hbad (by rw [okE]; simp; omega)]; exact ⟨rfl, rfl⟩
    · rw [hbad (by rw [okE]; simp; omega)]; exact ⟨rfl, rfl⟩
    have ho : okE e = true := by rw [okE, show ownS e.1 = true by simpa using h1]; simp; omega
    refine br_dec (fun h4 => ?_) fun h4 => fin ho fun k hk => by omega
    obtain ⟨p, rfl⟩ : ∃ p, i = p + 1 := ⟨i - 1, by omega⟩
    have w1 : IntKind.i64.wrap (((p + 1 : Nat) : Int) - 1) = (p : Int) := w_nat (by omega) (by omega)
    rw [w1, Int.toNat_natCast]
    have hgp : l[p]?.getD (({ data := #[] }, 0, ()) : Ent) = l[p] := by rw [List.getElem?_eq_getElem (by omega)]; rfl
    rw [hgp]
    refine ⟨⟨by omega, by omega⟩, br_intro (fun h => ?_) fun h5 => fin ho fun k hk => ?_⟩
    · rw [geq_eq] at h
      rw [putD_no fun hd => ?_]; exact ⟨rfl, rfl⟩
      have := one_rises hd.2.1 p hlt
      rw [he] at this
      rw [this] at h; cases h
    · rw [geq_eq] at h5
      rcases Nat.lt_or_ge (k + 1) (p + 1) with hk2 | hk2
      · exact hri k hk2
      · obtain rfl : k = p := by omega
        rw [List.getD_eq_getElem?_getD, List.getD_eq_getElem?_getD, hg, show l[k]?.getD dfltE = l[k] from hgp]
        simpa using h5
  · have hi2 : i = l.length := by omega
    have hd3 : dirL l = bl s := by rw [hs, hi2, List.take_length]
    refine br_dec (fun h => ?_) fun h => ?_
    · rw [putD_no fun hd => ?_]; exact ⟨rfl, rfl⟩
      have := hd.2.2
      rw [hd3, ← bl_size] at this
      omega
    · have hd : dirOK l := by
        refine ⟨fun e he => hok e (by rw [hi2, List.take_length]; exact he), rises_one fun k hk => ?_, by rw [hd3, ← bl_size]; omega⟩
        have := hri k (by omega)
        rw [List.getD_eq_getElem?_getD, List.getD_eq_getElem?_getD, List.getElem?_eq_getElem (by omega), List.getElem?_eq_getElem hk] at this
        exact this
      rw [putD_ok hd, hd3, ofL_bl]; exact ⟨rfl, rfl⟩
theorem rputD_ok : ConOK Tryz.prog 73 rputDC := by
  refine con_ok tab_ok (Γ := ΓrputD) (consOK_cons rown_ok consOK_nil) (by kernel_rfl) Tryz.func73 (by kernel_rfl) ?_
  intro args out h
  obtain ⟨x, e, h1⟩ := conN_inv h
  clear h
  obtain ⟨l, x0⟩ := x
  subst e
  replace h1 : (if ∀ e ∈ l, e.1.size ≤ 4000000000 then some ⟨.tup [⟨.str, (putD l).1⟩, ⟨.bool, (putD l).2⟩], []⟩ else none) = some out := h1
  split at h1
  case isFalse => cases h1
  rename_i hr
  injection h1 with h1
  subst h1
  exact ⟨by rw [mkArgs_len]; decide, rputD_ex l hr⟩
/-- The contract of glacisref6.TakeDir. -/
def rtakeDC : Con := conN [(.v, .str)] fun (s, _) => if s.size ≤ 4000000000 then some ⟨.tup [⟨.slice EntT, (takeD s).1⟩, ⟨.bool, (takeD s).2⟩], []⟩ else none
theorem rtakeDC_eq {s : ByteArray} : rtakeDC [.val ⟨.str, s⟩] = if s.size ≤ 4000000000 then some ⟨.tup [⟨.slice EntT, (takeD s).1⟩, ⟨.bool, (takeD s).2⟩], []⟩ else none := conN_mk (ks := [(.v, .str)]) (s, ())
def ΓrtakeD : Cons := cons [(73, rputDC)]
theorem rtakeD_ex (s : ByteArray) (hr : s.size ≤ 4000000000) : Ex tab ΓrtakeD (Tryz.f55.body.getD .skip) (EndsF tab Tryz.f55.results.toList [.val ⟨.str, s⟩] ⟨.tup [⟨.slice EntT, (takeD s).1⟩, ⟨.bool, (takeD s).2⟩], []⟩) (ini [.val ⟨.str, s⟩]) := by
  have g_rputD : ΓrtakeD 73 = some rputDC := rfl
  simp only [Tryz.f55, Option.getD_some]
  simp (implicitDefEqProofs := false) (decide := true) (maxSteps := 4000000) [ini, g_rputD, rputDC_eq]
  refine ex_loopN 4 EntT rfl (σ := Nat × Nat × List Ent) [2, 3, 4, 5, 6, 9, 10, 11, 12, 13, 14, 15, 16, 17, 18, 19, 20, 21, 22, 23, 24, 25, 26, 27, 28, 29, 30, 31, 32, 33, 34, 35, 36, 37, 38, 39, 40, 41, 42, 43, 44, 45, 46, 47, 48, 49, 50] (fun a => [(5, .val (.int .i64) (a.1 : Int)), (4, .own a.2.1 EntT a.2.2)])
    (fun a => a.1 ≤ s.size ∧ a.2.2.length ≤ a.1 ∧ (∀ e ∈ a.2.2, e.1.size ≤ 6) ∧ parseD s.size (bl s) = (parseD (s.size - a.2.2.length) ((bl s).drop a.1)).map fun r => a.2.2 ++ r) (fun a => s.size - a.1) (fun m => ⟨(0, m, []), ⟨Nat.zero_le _, Nat.zero_le _, by simp, by simp⟩, hc rfl (hc rfl hn)⟩) ?_
  rintro m j ⟨i, q, out⟩ ⟨hi, hol, ho6, hp⟩
  simp only at hi hol ho6 hp
  simp (implicitDefEqProofs := false) (decide := true) (maxSteps := 4000000) [ini, g_rputD, rputDC_eq, w_byte]
  have hsz := bl_size s
  have hnone : parseD (s.size - out.length) ((bl s).drop i) = none → takeD s = ([], false) := fun h => by
    unfold takeD; rw [hp, h]; rfl
  refine br_dec (fun hlt => ⟨hlt, ?_⟩) fun hge => ?_
  · obtain ⟨c, hd, hc'⟩ := drop_at hlt
    have hcl := c.toNat_lt
    have hdl : ((bl s).drop (i + 1)).length = s.size - (i + 1) := by rw [List.length_drop, hsz]
    obtain ⟨k, hk⟩ : ∃ k, s.size - out.length = k + 1 := ⟨s.size - out.length - 1, by omega⟩
    rw [hd, hk] at hp hnone
    rw [hc']
    have w1 : IntKind.i64.wrap ((i : Int) + 1) = ((i + 1 : Nat) : Int) := w_nat rfl (by omega)
    have w2 : IntKind.i64.wrap (((i + 1 : Nat) : Int) + (c.toNat : Int)) = ((i + 1 + c.toNat : Nat) : Int) := w_nat rfl (by omega)
    have w3 : IntKind.i64.wrap ((i : Int) + (c.toNat : Int)) = ((i + c.toNat : Nat) : Int) := w_nat rfl (by omega)
    have w4 : IntKind.i64.wrap (((i + c.toNat : Nat) : Int) + 2) = ((i + c.toNat + 2 : Nat) : Int) := w_nat rfl (by omega)
    rw [w1, w2, w3, w4]
    simp only [Int.toNat_natCast]
    refine br_dec (fun h => ?_) fun h1 => br_dec (fun h => ?_) fun h2 m2 => ?_
    · rw [hnone (by rw [parseD, if_pos (.inl (by omega))])]; exact ⟨rfl, rfl⟩
    · rw [hnone (by rw [parseD, if_pos (.inr (by rw [hdl]; omega))])]; exact ⟨rfl, rfl⟩
    · rw [parseD, if_neg (by rw [hdl]; omega), Option.map_map, List.drop_drop] at hp
      refine ⟨by omega, by omega, by omega, by omega, i + c.toNat + 2, _, _, ⟨by omega, by simp; omega, ?_, ?_⟩, by omega, rfl, rfl, rfl⟩
      · intro a b u he
        rcases List.mem_append.1 he with he | he
        · exact ho6 _ he
        · rw [congrArg (fun x : Ent => x.1.size) (List.mem_singleton.1 he)]
          simp only
          rw [extract_ofL, bl_size, bl_ofL, List.length_take]
          omega
      rw [List.length_append, List.length_singleton, show s.size - (out.length + 1) = k by omega, show i + c.toNat + 2 = i + 1 + (c.toNat + 1) by omega, hp]
      congr 1
      funext r
      have e1 : byteAt s (i + 1 + c.toNat) = ((((bl s).drop (i + 1)).getD c.toNat 0).toNat : Int) := by
        rw [byteAt_bl, List.getD_eq_getElem?_getD, List.getD_eq_getElem?_getD, List.getElem?_drop]
      rw [extract_ofL, e1, List.append_assoc]
      rfl
  · have hi2 : i = s.size := by omega
    rw [hi2, List.drop_eq_nil_of_le (by omega)] at hp
    have hp : parseD s.size (bl s) = some out := by
      rw [hp]; cases s.size - out.length <;> simp [parseD]
    refine ⟨fun a b u he => by have := ho6 _ he; simp only at this; omega, br_intro (fun h => ?_) fun h1 => br_intro (fun h => ?_) fun h2 => ?_⟩
    · rw [takeD, hp]
      simp only
      rw [if_neg (by intro e; rw [e] at h; simp at h)]; exact ⟨rfl, rfl⟩
    · rw [takeD, hp]
      simp only
      rw [if_neg (by intro e; rw [e] at h; simp at h)]; exact ⟨rfl, rfl⟩
    · have e1 : (putD out).2 = true := by simpa using h1
      have e2 : (putD out).1 = s := bl_inj (by rw [← toList_bl, ← toList_bl]; simpa using h2)
      rw [takeD, hp]
      simp only
      rw [if_pos (by rw [← e1, ← e2])]; exact ⟨rfl, rfl⟩
theorem rtakeD_ok : ConOK Tryz.prog 55 rtakeDC := by
  refine con_ok tab_ok (Γ := ΓrtakeD) (consOK_cons rputD_ok consOK_nil) (by kernel_rfl) Tryz.func55 (by kernel_rfl) ?_
  intro args out h
  obtain ⟨x, e, h1⟩ := conN_inv h
  clear h
  obtain ⟨s, x0⟩ := x
  subst e
  replace h1 : (if s.size ≤ 4000000000 then some ⟨.tup [⟨.slice EntT, (takeD s).1⟩, ⟨.bool, (takeD s).2⟩], []⟩ else none) = some out := h1
  split at h1
  case isFalse => cases h1
  rename_i hr
  injection h1 with h1
  subst h1
  exact ⟨by rw [mkArgs_len]; decide, rtakeD_ex s hr⟩
/-- The contract of glacisref6.FindDir. -/
def rfindDC : Con := conN [(.v, .slice EntT), (.v, .str)] fun (l, nm, _) => some ⟨.tup [⟨.int .i64, (findD l nm).1⟩, ⟨.bool, (findD l nm).2⟩], []⟩
theorem rfindDC_eq {l : List (Ty.den (EntT))} {nm : ByteArray} : rfindDC [.val ⟨.slice EntT, l⟩, .val ⟨.str, nm⟩] = some ⟨.tup [⟨.int .i64, (findD l nm).1⟩, ⟨.bool, (findD l nm).2⟩], []⟩ := conN_mk (ks := [(.v, .slice EntT), (.v, .str)]) (l, nm, ())
def ΓrfindD : Cons := cons []
theorem rfindD_ex (l : List (Ty.den (EntT))) (nm : ByteArray) : Ex tab ΓrfindD (Tryz.f41.body.getD .skip) (EndsF tab Tryz.f41.results.toList [.val ⟨.slice EntT, l⟩, .val ⟨.str, nm⟩] ⟨.tup [⟨.int .i64, (findD l nm).1⟩, ⟨.bool, (findD l nm).2⟩], []⟩) (ini [.val ⟨.slice EntT, l⟩, .val ⟨.str, nm⟩]) := by
  simp only [Tryz.f41, Option.getD_some]
  simp (implicitDefEqProofs := false) (decide := true) (maxSteps := 4000000) [ini]
  refine ex_loopU (σ := Nat) [4, 5, 6, 7, 8, 9, 10, 11, 12, 13, 14, 15, 16, 17, 18, 19, 20, 21, 22, 23, 24] (fun a => [(6, .val (.int .i64) (a : Int))]) (fun a => a ≤ l.length ∧ ∀ e ∈ l.take a, eqB e.1 nm = false) (fun a => l.length - a) 0 ⟨Nat.zero_le _, by simp⟩ (hc rfl hn) ?_
  rintro j i ⟨hi, ha⟩
  simp (implicitDefEqProofs := false) (decide := true) (maxSteps := 4000000) [ini]
  intro hml
  have hml : l.length ≤ 9223372036854775807 := hml
  refine br_dec (fun hlt => ⟨hlt, ?_⟩) fun hge => ?_
  · rw [eql_eq]
    obtain ⟨x, hx⟩ : ∃ x : Ent, l[i] = x := ⟨_, rfl⟩
    have hg : l[i]?.getD dfltE = x := by rw [List.getElem?_eq_getElem hlt, hx]; rfl
    have hsp : l = l.take i ++ x :: l.drop (i + 1) := by rw [← hx, ← List.drop_eq_getElem_cons hlt, List.take_append_drop]
    have htk : l.take (i + 1) = l.take i ++ [x] := by rw [List.take_succ_eq_append_getElem hlt, hx]
    refine br_intro (fun h => ⟨hlt, ?_⟩) fun h => ⟨i + 1, ⟨by omega, ?_⟩, by omega, w_nat rfl (by omega)⟩
    · have hf : l.find? (fun e => eqB e.1 nm) = some x := by
        rw [hsp, List.find?_append, List.find?_eq_none.2 (fun e he => by rw [ha e he]; decide), Option.none_or, List.find?_cons_of_pos]
        rw [← hg]; exact h
      have : findD l nm = (x.2.1, true) := by rw [findD, hf]
      rw [this]
      exact ⟨by rw [show l[i]?.getD (({ data := #[] }, 0, ()) : Ent) = x from hg], rfl⟩
    · intro a b u he
      rw [htk, List.mem_append, List.mem_singleton] at he
      rcases he with he | he
      · exact ha _ he
      · have : eqB x.1 nm = false := by rw [← hg]; exact h
        rw [← he] at this; exact this
  · have hf : l.find? (fun e => eqB e.1 nm) = none := List.find?_eq_none.2 fun e he => by
      rw [ha e (by rw [show i = l.length by omega, List.take_length]; exact he)]; decide
    rw [findD, hf]; exact ⟨rfl, rfl⟩
theorem rfindD_ok : ConOK Tryz.prog 41 rfindDC := by
  refine con_ok tab_ok (Γ := ΓrfindD) consOK_nil (by kernel_rfl) Tryz.func41 (by kernel_rfl) ?_
  intro args out h
  obtain ⟨x, e, h1⟩ := conN_inv h
  clear h
  obtain ⟨l, nm, x0⟩ := x
  subst e
  replace h1 : (some ⟨.tup [⟨.int .i64, (findD l nm).1⟩, ⟨.bool, (findD l nm).2⟩], []⟩) = some out := h1
  injection h1 with h1
  subst h1
  exact ⟨by rw [mkArgs_len]; decide, rfindD_ex l nm⟩
end Go.Proofs.YtodkmhamaahjmaaGreatDoor

/- The reference's folders and trees, walked. -/
set_option maxRecDepth 100000
set_option maxHeartbeats 1000000
set_option linter.unusedSimpArgs false
set_option linter.unusedVariables false
set_option pp.deepTerms.threshold 60
namespace Go.Proofs.YtodkmhamaahjmaaGreatDoor
open Go.Tm Go.IntWalk
theorem split_at {α : Type} {l : List α} {i : Nat} (h : i < l.length) : ∃ x, l.drop i = x :: l.drop (i + 1) ∧ (∀ d, l[i]?.getD d = x) ∧ x ∈ l ∧ l.take (i + 1) = l.take i ++ [x] :=
  ⟨l[i], List.drop_eq_getElem_cons h, fun d => by rw [List.getElem?_eq_getElem h]; rfl, List.getElem_mem h, List.take_succ_eq_append_getElem h⟩
/-- The contract of glacisref6.With. -/
def rwithDC : Con := conN [(.v, .slice EntT), (.v, EntT)] fun (l, e, _) => if l.length ≤ 1000000 then some ⟨.tup [⟨.slice EntT, (withD l e).1⟩, ⟨.bool, (withD l e).2⟩], []⟩ else none
theorem rwithDC_eq {l : List (Ty.den (EntT))} {e : Ty.den (EntT)} : rwithDC [.val ⟨.slice EntT, l⟩, .val ⟨EntT, e⟩] = if l.length ≤ 1000000 then some ⟨.tup [⟨.slice EntT, (withD l e).1⟩, ⟨.bool, (withD l e).2⟩], []⟩ else none := conN_mk (ks := [(.v, .slice EntT), (.v, EntT)]) (l, e, ())
def ΓrwithD : Cons := cons [(41, rfindDC)]
theorem rwithD_ex (l : List (Ty.den (EntT))) (e : Ty.den (EntT)) (hr : l.length ≤ 1000000) : Ex tab ΓrwithD (Tryz.f72.body.getD .skip) (EndsF tab Tryz.f72.results.toList [.val ⟨.slice EntT, l⟩, .val ⟨EntT, e⟩] ⟨.tup [⟨.slice EntT, (withD l e).1⟩, ⟨.bool, (withD l e).2⟩], []⟩) (ini [.val ⟨.slice EntT, l⟩, .val ⟨EntT, e⟩]) := by
  have g_rfindD : ΓrwithD 41 = some rfindDC := rfl
  simp only [Tryz.f72, Option.getD_some]
  simp (implicitDefEqProofs := false) (decide := true) (maxSteps := 4000000) [ini, g_rfindD, rfindDC_eq]
  intro m0
  refine br_intro (fun h => ?_) fun h0 => ?_
  · rw [withD, if_pos h]; exact ⟨rfl, rfl⟩
  have hw : withD l e = (insD e l, true) := by rw [withD, if_neg (by rw [h0]; decide)]
  refine ex_loopN 8 EntT rfl (σ := Nat × Bool × Nat × List Ent) [8, 9, 10, 20, 21, 22, 23, 24, 25, 26, 27, 28, 29, 30, 31, 32, 33, 34, 35, 36, 37, 38, 39, 40, 41, 42, 43, 44, 45, 46, 47, 48] (fun a => [(10, .val (.int .i64) (a.1 : Int)), (9, .val .bool a.2.1), (8, .own a.2.2.1 EntT a.2.2.2)])
    (fun a => a.1 ≤ l.length ∧ a.2.2.2.length ≤ a.1 + a.2.1.toNat ∧ a.2.2.2 ++ (if a.2.1 = true then l.drop a.1 else insD e (l.drop a.1)) = insD e l) (fun a => l.length - a.1) (fun m => ⟨(0, false, m, []), ⟨Nat.zero_le _, Nat.zero_le _, rfl⟩, hc rfl (hc rfl (hc rfl hn))⟩) ?_
  rintro m j ⟨i, put', q, out⟩ ⟨hi, hol, hp⟩
  simp only at hi hol hp
  cases put' with
  | false =>
    simp (implicitDefEqProofs := false) (decide := true) (maxSteps := 4000000) [ini, g_rfindD, rfindDC_eq]
    intro _
    have hol : out.length ≤ i := hol
    rw [if_neg (by decide)] at hp
    refine br_dec (fun hlt => ⟨hlt, ?_⟩) fun hge => ⟨by omega, ?_⟩
    · obtain ⟨x, hd, hx, _, _⟩ := split_at hlt
      rw [gtr_eq', hx]
      rw [hd, insD] at hp
      refine br_intro (fun h => ⟨by omega, fun m2 => ⟨hlt, by omega, i + 1, _, _, ⟨by omega, by simp; omega, ?_⟩, by omega, w_nat rfl (by omega), rfl, rfl⟩⟩) fun h m2 => ⟨hlt, by omega, i + 1, _, _, ⟨by omega, by simp; omega, ?_⟩, by omega, w_nat rfl (by omega), rfl, rfl⟩
      · rw [if_pos h] at hp
        rw [List.append_assoc]; exact hp
      · rw [if_neg (by rw [h]; decide)] at hp
        rw [List.append_assoc]; exact hp
    · rw [List.drop_eq_nil_of_le (by omega)] at hp
      rw [hw, ← hp]; exact ⟨rfl, rfl⟩
  | true =>
    simp (implicitDefEqProofs := false) (decide := true) (maxSteps := 4000000) [ini, g_rfindD, rfindDC_eq]
    intro _
    have hol : out.length ≤ i + 1 := hol
    rw [if_pos rfl] at hp
    refine br_dec (fun hlt m2 => ⟨hlt, ?_⟩) fun hge => ?_
    · obtain ⟨x, hd, hx, _, _⟩ := split_at hlt
      rw [hx]
      rw [hd] at hp
      exact ⟨by omega, i + 1, _, _, ⟨by omega, by simp; omega, by rw [List.append_assoc]; exact hp⟩, by omega, w_nat rfl (by omega), rfl, rfl⟩
    · rw [List.drop_eq_nil_of_le (by omega), List.append_nil] at hp
      rw [hw, ← hp]; exact ⟨rfl, rfl⟩
theorem rwithD_ok : ConOK Tryz.prog 72 rwithDC := by
  refine con_ok tab_ok (Γ := ΓrwithD) (consOK_cons rfindD_ok consOK_nil) (by kernel_rfl) Tryz.func72 (by kernel_rfl) ?_
  intro args out h
  obtain ⟨x, e, h1⟩ := conN_inv h
  clear h
  obtain ⟨l, e, x0⟩ := x
  subst e
  replace h1 : (if l.length ≤ 1000000 then some ⟨.tup [⟨.slice EntT, (withD l e).1⟩, ⟨.bool, (withD l e).2⟩], []⟩ else none) = some out := h1
  split at h1
  case isFalse => cases h1
  rename_i hr
  injection h1 with h1
  subst h1
  exact ⟨by rw [mkArgs_len]; decide, rwithD_ex l e hr⟩
/-- The contract of glacisref6.Less. -/
def rlessDC : Con := conN [(.v, .slice EntT), (.v, .str)] fun (l, nm, _) => if l.length ≤ 1000000 then some ⟨.tup [⟨.slice EntT, (lessD l nm).1⟩, ⟨.bool, (lessD l nm).2⟩], []⟩ else none
theorem rlessDC_eq {l : List (Ty.den (EntT))} {nm : ByteArray} : rlessDC [.val ⟨.slice EntT, l⟩, .val ⟨.str, nm⟩] = if l.length ≤ 1000000 then some ⟨.tup [⟨.slice EntT, (lessD l nm).1⟩, ⟨.bool, (lessD l nm).2⟩], []⟩ else none := conN_mk (ks := [(.v, .slice EntT), (.v, .str)]) (l, nm, ())
def ΓrlessD : Cons := cons [(41, rfindDC)]
theorem rlessD_ex (l : List (Ty.den (EntT))) (nm : ByteArray) (hr : l.length ≤ 1000000) : Ex tab ΓrlessD (Tryz.f78.body.getD .skip) (EndsF tab Tryz.f78.results.toList [.val ⟨.slice EntT, l⟩, .val ⟨.str, nm⟩] ⟨.tup [⟨.slice EntT, (lessD l nm).1⟩, ⟨.bool, (lessD l nm).2⟩], []⟩) (ini [.val ⟨.slice EntT, l⟩, .val ⟨.str, nm⟩]) := by
  have g_rfindD : ΓrlessD 41 = some rfindDC := rfl
  simp only [Tryz.f78, Option.getD_some]
  simp (implicitDefEqProofs := false) (decide := true) (maxSteps := 4000000) [ini, g_rfindD, rfindDC_eq]
  refine br_intro (fun h => ?_) fun h0 => ?_
  · rw [lessD, if_neg (by simpa using h)]; exact ⟨rfl, rfl⟩
  have hw : lessD l nm = (l.filter fun e => !eqB e.1 nm, true) := by rw [lessD, if_pos (by simpa using h0)]
  refine ex_loopN 8 EntT rfl (σ := Nat × Nat × List Ent) [8, 9, 19, 20, 21, 22, 23, 24, 25, 26, 27, 28, 29, 30, 31, 32, 33, 34, 35, 36, 37, 38] (fun a => [(9, .val (.int .i64) (a.1 : Int)), (8, .own a.2.1 EntT a.2.2)])
    (fun a => a.1 ≤ l.length ∧ a.2.2.length ≤ a.1 ∧ a.2.2 ++ (l.drop a.1).filter (fun e => !eqB e.1 nm) = l.filter fun e => !eqB e.1 nm) (fun a => l.length - a.1) (fun m => ⟨(0, m, []), ⟨Nat.zero_le _, Nat.zero_le _, rfl⟩, hc rfl (hc rfl hn)⟩) ?_
  rintro m j ⟨i, q, out⟩ ⟨hi, hol, hp⟩
  simp only at hi hol hp
  simp (implicitDefEqProofs := false) (decide := true) (maxSteps := 4000000) [ini, g_rfindD, rfindDC_eq]
  intro _
  refine br_dec (fun hlt => ⟨hlt, ?_⟩) fun hge => ?_
  · obtain ⟨x, hd, hx, _, _⟩ := split_at hlt
    rw [eql_eq, hx]
    rw [hd] at hp
    refine br_intro (fun h m2 => ⟨hlt, by omega, i + 1, _, _, ⟨by omega, by simp; omega, ?_⟩, by omega, w_nat rfl (by omega), rfl, rfl⟩) fun h => ⟨i + 1, _, _, ⟨by omega, by omega, ?_⟩, by omega, w_nat rfl (by omega), rfl, rfl⟩
    · rw [List.filter_cons, if_pos (by exact h)] at hp
      rw [List.append_assoc]; exact hp
    · rw [List.filter_cons, if_neg (by rw [show (!eqB x.1 nm) = false from h]; decide)] at hp
      exact hp
  · rw [List.drop_eq_nil_of_le (by omega), List.filter_nil, List.append_nil] at hp
    rw [hw, hp]; exact ⟨rfl, rfl⟩
theorem rlessD_ok : ConOK Tryz.prog 78 rlessDC := by
  refine con_ok tab_ok (Γ := ΓrlessD) (consOK_cons rfindD_ok consOK_nil) (by kernel_rfl) Tryz.func78 (by kernel_rfl) ?_
  intro args out h
  obtain ⟨x, e, h1⟩ := conN_inv h
  clear h
  obtain ⟨l, nm, x0⟩ := x
  subst e
  replace h1 : (if l.length ≤ 1000000 then some ⟨.tup [⟨.slice EntT, (lessD l nm).1⟩, ⟨.bool, (lessD l nm).2⟩], []⟩ else none) = some out := h1
  split at h1
  case isFalse => cases h1
  rename_i hr
  injection h1 with h1
  subst h1
  exact ⟨by rw [mkArgs_len]; decide, rlessD_ex l nm hr⟩
end Go.Proofs.YtodkmhamaahjmaaGreatDoor
