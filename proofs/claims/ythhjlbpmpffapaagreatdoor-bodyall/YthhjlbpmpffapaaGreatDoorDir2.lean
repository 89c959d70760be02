/- dir: folders taken from bytes, by the program. -/
import Derived.Test.YthhjlbpmpffapaaGreatDoorDir1
import Derived.Test.YthhjlbpmpffapaaGreatDoorPNum
set_option maxRecDepth 10000
set_option maxHeartbeats 1000000
set_option linter.unusedSimpArgs false
set_option linter.unusedVariables false
set_option pp.deepTerms.threshold 14
namespace Go.Proofs.YthhjlbpmpffapaaGreatDoor
open Go.Tm Go.IntWalk

/-- Before the loop a row is told as only read, and a nil as a row of the call's own. -/
theorem ex_loopRN {tab : Tab} {Γ : Cons} {σ : Type} {x : Code} {Q : Exit → St → Prop} {st : St} (k : Nat) {n : Nat} {t : Ty} {v : List t.den} (hk : st k = .own n t v) (k2 : Nat) (t2 : Ty) (hk2 : Tm.put st k (.val (.slice t) v) k2 = .nil) (D : List Nat) (live : σ → Ups) (I : σ → Prop) (μ : σ → Nat)
    (h0 : ∀ m, ∃ a0, I a0 ∧ holds (live a0) (Tm.put (Tm.put st k (.val (.slice t) v)) k2 (.own m t2 [])))
    (h : ∀ (m : Nat) (j : St) (a : σ), I a → Ex tab Γ x (loopK Q fun st' => ∃ a', I a' ∧ μ a' < μ a ∧ holds (live a') st' ∧ Off D (Tm.put (Tm.put st k (.val (.slice t) v)) k2 (.own m t2 [])) st') (app (live a) (hav j (Tm.put (Tm.put st k (.val (.slice t) v)) k2 (.own m t2 [])) D))) : Ex tab Γ (.loop x) Q st := by
  have e : ∀ m, opens m [(k2, t2)] (seals [k] st) = Tm.put (Tm.put st k (.val (.slice t) v)) k2 (.own m t2 []) := fun m => by
    rw [seals_own hk, opens_one hk2]
  refine ex_loopG' [k] [(k2, t2)] D live I μ (fun m => ?_) (fun m => ?_)
  · rw [e m]; exact h0 m
  · rw [e m]; exact h m
theorem isB_li (x : List UInt8) : isB (li x) := fun v hv => by
  obtain ⟨c, _, rfl⟩ := List.mem_map.1 hv
  have := c.toNat_lt
  omega
theorem li_inj {x y : List UInt8} (h : li x = li y) : x = y := by
  have := congrArg strOf h
  rw [strOf_li, strOf_li] at this
  have := congrArg bl this
  rwa [bl_ofL, bl_ofL] at this
theorem take_ent {e : Ent} (h : okE e = true) (r : List UInt8) : takeTextS (li (entL e ++ r)) = (e.1, 1 + (e.1.size : Int), true) ∧ takeS ((li (entL e ++ r)).drop (1 + e.1.size)) 1 = (e.2.1, true) ∧ (li (entL e ++ r)).drop (2 + e.1.size) = li r ∧ (li (entL e ++ r)).length = 2 + e.1.size + r.length := by
  obtain ⟨o1, o2, o3⟩ := okE_out h
  obtain ⟨o4, o5⟩ := ownS_size o1
  obtain ⟨n, hn⟩ : ∃ n : Nat, (e.2.1 : Int) = n := ⟨e.2.1.toNat, by omega⟩
  have e0 : li (entL e ++ r) = (e.1.size : Int) :: (bytesOf e.1 ++ (e.2.1 :: li r)) := by
    rw [li_append, entL, hn, bytesOf_li]
    simp [li]
    omega
  have hb : (bytesOf e.1).length = e.1.size := bytesOf_len _
  rw [e0]
  refine ⟨?_, ?_, ?_, ?_⟩
  · unfold takeTextS
    simp only [List.length_cons, List.length_append, List.getD_cons_zero, hb, li_len]
    rw [i64_in _ (by omega), if_neg (by omega)]
    simp only [List.drop_succ_cons, List.drop_zero, Int.toNat_natCast]
    rw [List.take_left' hb, strOf_bytesOf]
  · rw [show 1 + e.1.size = e.1.size + 1 by omega, List.drop_succ_cons, List.drop_left' hb]
    have hB : isB (e.2.1 :: li r) := isB_cons.2 ⟨by omega, isB_li r⟩
    have hn1 := takeS_nat (nats_lt hB) 1
    rw [ints_nats hB] at hn1
    rw [hn1, if_neg (by rw [nats_length]; simp only [List.length_cons]; omega), hn]
    simp [nats, le]
  · rw [show 2 + e.1.size = (e.1.size + 1) + 1 by omega, List.drop_succ_cons, ← List.drop_drop, List.drop_left' hb]
    rfl
  · simp only [List.length_cons, List.length_append, hb, li_len]; omega
/-- The contract of dir.Take. -/
def dtakeC : Con := conN [(.v, .str)] fun (s, _) => if s.size ≤ 100000000000 then some ⟨.tup [⟨.slice (.prod .str (.prod (.int .i64) .unit)), (takeD s).1⟩, ⟨.bool, (takeD s).2⟩], []⟩ else none
theorem dtakeC_eq {s : ByteArray} : dtakeC [.val ⟨.str, s⟩] = if s.size ≤ 100000000000 then some ⟨.tup [⟨.slice (.prod .str (.prod (.int .i64) .unit)), (takeD s).1⟩, ⟨.bool, (takeD s).2⟩], []⟩ else none := conN_mk (ks := [(.v, .str)]) (s, ())
def Γdtake : Cons := cons [(54, takeTextC), (55, takeC), (56, dputC)]
theorem dtake_ex (s : ByteArray) (hr : s.size ≤ 100000000000) : Ex tab Γdtake (Tryz.f39.body.getD .skip) (EndsF tab Tryz.f39.results.toList [.val ⟨.str, s⟩] ⟨.tup [⟨.slice (.prod .str (.prod (.int .i64) .unit)), (takeD s).1⟩, ⟨.bool, (takeD s).2⟩], []⟩) (ini [.val ⟨.str, s⟩]) := by
  have g_takeText : Γdtake 54 = some takeTextC := rfl
  have g_take : Γdtake 55 = some takeC := rfl
  have g_dput : Γdtake 56 = some dputC := rfl
  simp only [Tryz.f39, Option.getD_some]
  simp (implicitDefEqProofs := false) (decide := true) (maxSteps := 4000000) [ini, g_takeText, takeTextC_eq, g_take, takeC_eq, g_dput, dputC_eq]
  intro m
  have hb0 : (bytesOf s).length = s.size := bytesOf_len s
  refine ⟨by omega, ?_⟩
  refine ex_loopRN 5 rfl 4 EntT rfl (σ := List Int × Nat × List Ent) [2, 3, 4, 5, 6, 7, 8, 9, 10, 15, 16, 17, 18, 19, 20, 21, 22, 23, 24, 25, 26, 27, 28, 29, 30, 31, 32, 33, 34, 35, 36, 37, 38, 39, 40, 41, 42, 43, 44, 45, 46] (fun a => [(5, .val (.slice (.int .u8)) a.1), (4, .own a.2.1 EntT a.2.2)])
    (fun a => isB a.1 ∧ a.1.length + 2 * a.2.2.length ≤ s.size ∧ (∀ e ∈ a.2.2, e.1.size ≤ 255) ∧ ∀ l0, dirOK l0 → dirL l0 = bl s → ∃ r, l0 = a.2.2 ++ r ∧ li (dirL r) = a.1) (fun a => a.1.length) (fun m => ⟨(bytesOf s, m, []), ⟨isB_bytesOf s, by simp [hb0], by simp, fun l0 _ h => ⟨l0, rfl, by rw [h]; rfl⟩⟩, hc rfl (hc rfl hn)⟩) ?_
  rintro m' j ⟨b, q, out⟩ ⟨hB, hsz, hnm, hall⟩
  simp only at hB hsz hnm hall
  simp (implicitDefEqProofs := false) (decide := true) (maxSteps := 4000000) [ini, g_takeText, takeTextC_eq, g_take, takeC_eq, g_dput, dputC_eq]
  intro hbl
  have hl63 : b.length ≤ 100000000000 := by omega
  have g0 := isB_getD hB 0
  have hno : (∀ l0, dirOK l0 → dirL l0 = bl s → False) → takeD s = ([], false) := fun h => by
    rcases takeD_cases s with ⟨l0, hl0⟩ | h2
    · exact (h l0 (takeD_iff.1 hl0).1 (takeD_iff.1 hl0).2).elim
    · exact h2
  have hent : ∀ l0, dirOK l0 → dirL l0 = bl s → 0 < b.length → ∃ e r, l0 = out ++ e :: r ∧ okE e = true ∧ b = li (entL e ++ dirL r) := fun l0 h1 h2 h3 => by
    obtain ⟨r, e1, e2⟩ := hall l0 h1 h2
    cases r with
    | nil => rw [← e2] at h3; exact absurd h3 (by simp [dirL, li])
    | cons e r => exact ⟨e, r, e1, h1.1 e (by rw [e1]; simp), by rw [← e2, dirL_cons]⟩
  refine br_dec (fun hpos => ⟨by rw [← List.getD_eq_getElem?_getD]; exact g0, ?_⟩) fun hz => ?_
  · have hn0 : 0 ≤ (takeTextS b).2.1 ∧ (takeTextS b).2.1 ≤ b.length ∧ (takeTextS b).1.size ≤ 255 := by
      unfold takeTextS
      split
      · exact ⟨by decide, by simp only; omega, by decide⟩
      · rename_i h
        rw [i64_in _ (by omega)] at h
        refine ⟨by simp only; omega, by simp only; omega, ?_⟩
        simp only [size_strOf, List.length_take]
        omega
    obtain ⟨t, ht⟩ : ∃ t, takeTextS b = t := ⟨_, rfl⟩
    obtain ⟨nm, n, ok⟩ := t
    have hent2 : ∀ l0, dirOK l0 → dirL l0 = bl s → ∃ e r, l0 = out ++ e :: r ∧ okE e = true ∧ b = li (entL e ++ dirL r) ∧ nm = e.1 ∧ n = 1 + (e.1.size : Int) := fun l0 h1 h2 => by
      obtain ⟨e, r, e1, e2, e3⟩ := hent l0 h1 h2 hpos
      have := (take_ent e2 (dirL r)).1
      rw [← e3, ht] at this
      injection this with p1 p2
      injection p2 with p2 p3
      exact ⟨e, r, e1, e2, e3, p1, p2⟩
    rw [ht] at hn0 ⊢
    simp only at hn0 ⊢
    obtain ⟨c, rfl⟩ : ∃ c : Nat, n = c := ⟨n.toNat, by omega⟩
    rw [Int.toNat_natCast, take_rest]
    refine ⟨⟨hn0.1, hn0.2.1⟩, br_intro (fun h => ?_) fun h1 => br_intro (fun h => ?_) fun h2 m2 => ?_⟩
    · rw [hno fun l0 q1 q2 => ?_]; exact ⟨rfl, rfl⟩
      obtain ⟨e, r, e1, e2, e3, e4, e5⟩ := hent2 l0 q1 q2
      have h3 := (take_ent e2 (dirL r)).2.1
      rw [← e3, show 1 + e.1.size = c by omega] at h3
      rw [h3] at h; cases h
    · rw [hno fun l0 q1 q2 => ?_]; exact ⟨rfl, rfl⟩
      obtain ⟨e, r, e1, e2, e3, e4, e5⟩ := hent2 l0 q1 q2
      have h : (c : Int) = 0 := by simpa using h
      omega
    · have hc0 : ¬ (c : Int) = 0 := by simpa using h2
      have hk := takeS_true (not_f h1)
      rw [List.length_drop] at hk
      have w : IntKind.i64.wrap ((c : Int) + 1) = ((c + 1 : Nat) : Int) := w_nat rfl (by omega)
      rw [w]
      have hlt : (out.length + 1) * 24 ≤ 140737488355328 := by omega
      have hdl : (b.drop (c + 1)).length = b.length - (c + 1) := List.length_drop
      rw [Int.toNat_natCast, take_rest]
      refine ⟨hlt, ⟨by omega, by omega⟩, _, _, _, ⟨isB_drop hB (c + 1), ?_, ?_, fun l0 q1 q2 => ?_⟩, by omega, rfl, rfl, rfl⟩
      · rw [List.length_append, hdl, List.length_singleton]; omega
      · intro a1 a2 a3 hm
        rcases List.mem_append.1 hm with hm | hm
        · exact hnm _ hm
        · rw [List.mem_singleton] at hm
          injection hm with hm _
          rw [hm]; exact hn0.2.2
      · obtain ⟨e, r, e1, e2, e3, e4, e5⟩ := hent2 l0 q1 q2
        obtain ⟨_, t2, t3, _⟩ := take_ent e2 (dirL r)
        have hc1 : 1 + e.1.size = c := by omega
        rw [← e3] at t2 t3
        rw [hc1] at t2
        rw [show 2 + e.1.size = c + 1 by omega] at t3
        refine ⟨r, ?_, t3.symm⟩
        rw [t2, e4, e1]
        show out ++ e :: r = out ++ [(e.1, e.2.1, ())] ++ r
        rw [List.append_assoc]
        rfl
  · have hbn : b = [] := List.eq_nil_of_length_eq_zero (by omega)
    refine ⟨⟨by omega, fun a1 a2 a3 hm => ?_⟩, ?_⟩
    · have := hnm _ hm
      simp only at this
      omega
    have hno2 : putD out ≠ (s, true) → takeD s = ([], false) := fun h => hno fun l0 q1 q2 => by
      obtain ⟨r, e1, e2⟩ := hall l0 q1 q2
      have hr0 : r = [] := by
        cases r with
        | nil => rfl
        | cons e r =>
          rw [hbn] at e2
          have := congrArg List.length e2
          rw [li_len, dirL_cons, List.length_append, entL_len, List.length_nil] at this
          omega
      rw [hr0, List.append_nil] at e1
      rw [e1] at q1 q2
      exact h (putD_iff.2 ⟨q1, q2⟩)
    refine br_intro (fun h => ?_) fun h => br_intro (fun h2 => ?_) fun h2 => ?_
    · rw [hno2 fun e => by rw [e] at h; cases h]; exact ⟨rfl, rfl⟩
    · rw [hno2 fun e => by rw [e] at h2; exact str_ne h2 rfl]; exact ⟨rfl, rfl⟩
    · have e : putD out = (s, true) := Prod.ext (str_eq h2) (not_f h)
      have ht : takeD s = (out, true) := takeD_iff.2 (putD_iff.1 e)
      rw [ht]; exact ⟨rfl, rfl⟩
theorem dtake_ok : ConOK Tryz.prog 39 dtakeC := by
  refine con_ok tab_ok (Γ := Γdtake) (consOK_cons takeText_ok (consOK_cons take_ok (consOK_cons dput_ok consOK_nil))) (by kernel_rfl) Tryz.func39 (by kernel_rfl) ?_
  intro args out h
  obtain ⟨x, e, h1⟩ := conN_inv h
  clear h
  obtain ⟨s, x0⟩ := x
  subst e
  replace h1 : (if s.size ≤ 100000000000 then some ⟨.tup [⟨.slice (.prod .str (.prod (.int .i64) .unit)), (takeD s).1⟩, ⟨.bool, (takeD s).2⟩], []⟩ else none) = some out := h1
  split at h1
  case isFalse => cases h1
  rename_i hr
  injection h1 with h1
  subst h1
  exact ⟨by rw [mkArgs_len]; decide, dtake_ex s hr⟩
end Go.Proofs.YthhjlbpmpffapaaGreatDoor
