/- Changes made of numbers. -/
import Derived.Test.YthhjlbpmpffapaaGreatDoorPicksA
import Derived.Test.YthhjlbpmpffapaaGreatDoorRef6g
import Derived.Test.YthhjlbpmpffapaaGreatDoorPGood4
set_option maxRecDepth 100000
set_option maxHeartbeats 2000000
set_option linter.unusedSimpArgs false
set_option linter.unusedVariables false
set_option pp.deepTerms.threshold 30
namespace Go.Proofs.YthhjlbpmpffapaaGreatDoor
open Go.Tm Go.IntWalk
abbrev StepT : Ty := .prod (.int .i64) (.prod (.int .i64) (.prod (.int .i64) (.prod (.int .i64) (.prod (.int .i64) (.prod .str (.prod .str (.prod .str (.prod (.slice .bool) .unit))))))))
abbrev Step : Type := Int × Int × Int × Int × Int × ByteArray × ByteArray × ByteArray × List Bool × Unit
def editK : List Int := [1, 1, 1, 2, 3, 4, 4, 5, 5, 6, 7, 1]
def offW : List Int := [0, 0, 1, 39, 40, 100, 120, 130]
def offC : List Int := [0, 1, 40, 41, 120, 121, 3, 80]
def editA (kd : Int) (a : ByteArray × Pk) : Step × Pk :=
  if kd = 1 then
    if (numP (numP a.2 2).2 12).1 = 0 then ((kd, 0, 0, (numP (numP (numP a.2 2).2 12).2 4).1, 0, a.1, no, no, [], ()), (numP (numP (numP a.2 2).2 12).2 4).2)
    else ((kd, 0, 0, 1 + (numP a.2 2).1, 0, a.1, no, no, [], ()), (numP (numP a.2 2).2 12).2)
  else if kd = 2 ∨ kd = 4 then ((kd, 0, 0, 0, 0, a.1, (pathP a.2).1, no, [], ()), (pathP a.2).2)
  else if kd = 5 then ((kd, 0, 0, 0, offW.getD (numP a.2 8).1.toNat 0, a.1, no, (textP (numP a.2 8).2).1, [], ()), (textP (numP a.2 8).2).2)
  else if kd = 6 then ((kd, 0, 0, 0, offC.getD (numP a.2 8).1.toNat 0, a.1, no, no, [], ()), (numP a.2 8).2)
  else if kd = 7 then ((kd, 0, 0, (numP a.2 256).1, 0, a.1, no, no, [], ()), (numP a.2 256).2)
  else ((kd, 0, 0, 0, 0, a.1, no, no, [], ()), a.2)
def editP (p : Pk) : Step × Pk := editA (editK.getD (numP p 12).1.toNat 0) (pathP (numP p 12).2)
theorem pathP_ok {p : Pk} (h : okP p) : okP (pathP p).2 := numP_ok h 15
theorem textP_ok {p : Pk} (h : okP p) : okP (textP p).2 := numP_ok (numP_ok h 8) 26
/-- The contract of (*glacismade.Picks).Edit. -/
def peditC : Con := conN [(.o, .prod (.slice (.int .u8)) (.prod (.int .i64) .unit))] fun (p, _) => if okP p then some ⟨.val ⟨StepT, (editP p).1⟩, [⟨PkT, (editP p).2⟩]⟩ else none
theorem peditC_eq {p : Ty.den (.prod (.slice (.int .u8)) (.prod (.int .i64) .unit))} : peditC [.obj ⟨.prod (.slice (.int .u8)) (.prod (.int .i64) .unit), p⟩] = if okP p then some ⟨.val ⟨StepT, (editP p).1⟩, [⟨PkT, (editP p).2⟩]⟩ else none := conN_mk (ks := [(.o, .prod (.slice (.int .u8)) (.prod (.int .i64) .unit))]) (p, ())
def Γpedit : Cons := cons [(9, pnumC), (8, ppathC), (10, ptextC)]
theorem pedit_ex (p : Ty.den (.prod (.slice (.int .u8)) (.prod (.int .i64) .unit))) (hr : okP p) : Ex tab Γpedit (Tryz.f49.body.getD .skip) (EndsF tab Tryz.f49.results.toList [.obj ⟨.prod (.slice (.int .u8)) (.prod (.int .i64) .unit), p⟩] ⟨.val ⟨StepT, (editP p).1⟩, [⟨PkT, (editP p).2⟩]⟩) (ini [.obj ⟨.prod (.slice (.int .u8)) (.prod (.int .i64) .unit), p⟩]) := by
  have g_pnum : Γpedit 9 = some pnumC := rfl
  have g_ppath : Γpedit 8 = some ppathC := rfl
  have g_ptext : Γpedit 10 = some ptextC := rfl
  simp only [Tryz.f49, Option.getD_some]
  simp (implicitDefEqProofs := false) (decide := true) (maxSteps := 4000000) [ini, g_pnum, pnumC_eq, g_ppath, ppathC_eq, g_ptext, ptextC_eq]
  have k12 := numP_lt hr (show (1 : Int) ≤ 12 by decide)
  have h9 := numP_ok hr 12
  refine ⟨hr, k12, k12.2, h9, ?_⟩
  have e : [1, 1, 1, 2, 3, 4, 4, 5, 5, 6, 7, 1][(numP p 12).1.toNat]?.getD 0 = editK.getD (numP p 12).1.toNat 0 := by rw [List.getD_eq_getElem?_getD]; rfl
  have hv : editK.getD (numP p 12).1.toNat 0 = 1 ∨ editK.getD (numP p 12).1.toNat 0 = 2 ∨ editK.getD (numP p 12).1.toNat 0 = 3 ∨ editK.getD (numP p 12).1.toNat 0 = 4 ∨ editK.getD (numP p 12).1.toNat 0 = 5 ∨ editK.getD (numP p 12).1.toNat 0 = 6 ∨ editK.getD (numP p 12).1.toNat 0 = 7 :=
    (by decide : ∀ n < 12, editK.getD n 0 = 1 ∨ editK.getD n 0 = 2 ∨ editK.getD n 0 = 3 ∨ editK.getD n 0 = 4 ∨ editK.getD n 0 = 5 ∨ editK.getD n 0 = 6 ∨ editK.getD n 0 = 7) (numP p 12).1.toNat (by omega)
  rw [e]
  clear e k12
  unfold editP
  generalize editK.getD (numP p 12).1.toNat 0 = kd at hv ⊢
  generalize numP p 12 = k at h9 ⊢
  have ha := pathP_ok h9
  generalize pathP k.2 = a at ha ⊢
  have a1 := numP_lt ha (show (1 : Int) ≤ 2 by decide)
  have a2 := numP_ok ha 2
  have b2 := numP_ok a2 12
  have w1 : IntKind.i64.wrap (1 + (numP a.2 2).1) = 1 + (numP a.2 2).1 := i64_in _ (by omega)
  have c1 := numP_lt ha (show (1 : Int) ≤ 8 by decide)
  have c2 := numP_ok ha 8
  rcases hv with e | e | e | e | e | e | e
  · subst e
    by_cases h0 : (numP (numP a.2 2).2 12).1 = 0 <;> simp [editA, br, h0, ha, a2, b2, w1]
  · simp [editA, br, e, ha]
  · simp [editA, br, e]
  · simp [editA, br, e, ha]
  · simp [editA, br, e, ha, c1, c2, offW, List.getD_eq_getElem?_getD]
  · simp [editA, br, e, ha, c1, c2, offC, List.getD_eq_getElem?_getD]
  · simp [editA, br, e, ha]
theorem pedit_ok : ConOK Tryz.prog 49 peditC := by
  refine con_ok tab_ok (Γ := Γpedit) (consOK_cons pnum_ok (consOK_cons ppath_ok (consOK_cons ptext_ok consOK_nil))) (by kernel_rfl) Tryz.func49 (by kernel_rfl) ?_
  intro args out h
  obtain ⟨x, e, h1⟩ := conN_inv h
  clear h
  obtain ⟨p, x0⟩ := x
  subst e
  replace h1 : (if okP p then some ⟨.val ⟨StepT, (editP p).1⟩, [⟨PkT, (editP p).2⟩]⟩ else none) = some out := h1
  split at h1
  case isFalse => cases h1
  rename_i hr
  injection h1 with h1
  subst h1
  exact ⟨by rw [mkArgs_len]; decide, pedit_ex p hr⟩
/-- The contract of (*glacismade.Picks).Over. -/
def poverC : Con := conN [(.o, .prod (.slice (.int .u8)) (.prod (.int .i64) .unit))] fun (p, _) => some ⟨.val ⟨.bool, decide ((p.1.length : Int) ≤ p.2.1)⟩, [⟨PkT, p⟩]⟩
theorem poverC_eq {p : Ty.den (.prod (.slice (.int .u8)) (.prod (.int .i64) .unit))} : poverC [.obj ⟨.prod (.slice (.int .u8)) (.prod (.int .i64) .unit), p⟩] = some ⟨.val ⟨.bool, decide ((p.1.length : Int) ≤ p.2.1)⟩, [⟨PkT, p⟩]⟩ := conN_mk (ks := [(.o, .prod (.slice (.int .u8)) (.prod (.int .i64) .unit))]) (p, ())
def Γpover : Cons := cons []
theorem pover_ex (p : Ty.den (.prod (.slice (.int .u8)) (.prod (.int .i64) .unit))) : Ex tab Γpover (Tryz.f47.body.getD .skip) (EndsF tab Tryz.f47.results.toList [.obj ⟨.prod (.slice (.int .u8)) (.prod (.int .i64) .unit), p⟩] ⟨.val ⟨.bool, decide ((p.1.length : Int) ≤ p.2.1)⟩, [⟨PkT, p⟩]⟩) (ini [.obj ⟨.prod (.slice (.int .u8)) (.prod (.int .i64) .unit), p⟩]) := by
  simp only [Tryz.f47, Option.getD_some]
  simp (implicitDefEqProofs := false) (decide := true) (maxSteps := 4000000) [ini]
theorem pover_ok : ConOK Tryz.prog 47 poverC := by
  refine con_ok tab_ok (Γ := Γpover) consOK_nil (by kernel_rfl) Tryz.func47 (by kernel_rfl) ?_
  intro args out h
  obtain ⟨x, e, h1⟩ := conN_inv h
  clear h
  obtain ⟨p, x0⟩ := x
  subst e
  replace h1 : (some ⟨.val ⟨.bool, decide ((p.1.length : Int) ≤ p.2.1)⟩, [⟨PkT, p⟩]⟩) = some out := h1
  injection h1 with h1
  subst h1
  exact ⟨by rw [mkArgs_len]; decide, pover_ex p⟩
/-- A change, done to a tree. -/
noncomputable def doneT (t : List Node) (s : Step) (own : Bool) : List Node × Int :=
  if s.1 = 1 then makeT t s.2.2.2.2.2.1 s.2.2.2.1 6 0 own else
  if s.1 = 2 then linkT t s.2.2.2.2.2.1 s.2.2.2.2.2.2.1 own else
  if s.1 = 3 then delT t s.2.2.2.2.2.1 own else
  if s.1 = 4 then moveT t s.2.2.2.2.2.1 s.2.2.2.2.2.2.1 own else
  if s.1 = 5 then writeT t s.2.2.2.2.2.1 s.2.2.2.2.1 s.2.2.2.2.2.2.2.1 own else
  if s.1 = 6 then sizeT t s.2.2.2.2.2.1 s.2.2.2.2.1 own else
  modeT t s.2.2.2.2.2.1 s.2.2.2.1 own
theorem good_doneT {t : List Node} (hg : GoodT t) (s : Step) (own : Bool) : GoodT (doneT t s own).1 := by
  unfold doneT
  split
  · exact good_makeT hg _ _ _ _ _
  split
  · exact good_linkT hg _ _ _
  split
  · exact good_delT hg _ _
  split
  · exact good_moveT hg _ _ _
  split
  · exact good_write hg _ _ _ _
  split
  · exact good_size hg _ _ _
  · exact good_mode hg _ _ _
/-- The contract of glacismade.Done. -/
noncomputable def pdoneC : Con := conN [(.v, TreeT), (.v, StepT), (.v, .bool)] fun (t, s, own, _) => if fitT t ∧ allDeep t ∧ s.2.2.2.2.2.1.size ≤ 4000000000 ∧ s.2.2.2.2.2.2.1.size ≤ 4000000000 ∧ s.2.2.2.2.2.2.2.1.size ≤ 4000000000 then some ⟨.tup [⟨TreeT, (doneT t s own).1⟩, ⟨.int .i64, (doneT t s own).2⟩], []⟩ else none
theorem pdoneC_eq {t : Ty.den (TreeT)} {s : Ty.den (StepT)} {own : Bool} : pdoneC [.val ⟨TreeT, t⟩, .val ⟨StepT, s⟩, .val ⟨.bool, own⟩] = if fitT t ∧ allDeep t ∧ s.2.2.2.2.2.1.size ≤ 4000000000 ∧ s.2.2.2.2.2.2.1.size ≤ 4000000000 ∧ s.2.2.2.2.2.2.2.1.size ≤ 4000000000 then some ⟨.tup [⟨TreeT, (doneT t s own).1⟩, ⟨.int .i64, (doneT t s own).2⟩], []⟩ else none := conN_mk (ks := [(.v, TreeT), (.v, StepT), (.v, .bool)]) (t, s, own, ())
noncomputable def Γpdone : Cons := cons [(27, rmakeTC), (62, rlinkTC), (63, rdelTC), (64, rmoveTC), (14, rwriteTC), (17, rsizeTC), (19, rmodeTC)]
theorem pdone_ex (t : Ty.den (TreeT)) (s : Ty.den (StepT)) (own : Bool) (hr : fitT t ∧ allDeep t ∧ s.2.2.2.2.2.1.size ≤ 4000000000 ∧ s.2.2.2.2.2.2.1.size ≤ 4000000000 ∧ s.2.2.2.2.2.2.2.1.size ≤ 4000000000) : Ex tab Γpdone (Tryz.f48.body.getD .skip) (EndsF tab Tryz.f48.results.toList [.val ⟨TreeT, t⟩, .val ⟨StepT, s⟩, .val ⟨.bool, own⟩] ⟨.tup [⟨TreeT, (doneT t s own).1⟩, ⟨.int .i64, (doneT t s own).2⟩], []⟩) (ini [.val ⟨TreeT, t⟩, .val ⟨StepT, s⟩, .val ⟨.bool, own⟩]) := by
  have g_rmakeT : Γpdone 27 = some rmakeTC := rfl
  have g_rlinkT : Γpdone 62 = some rlinkTC := rfl
  have g_rdelT : Γpdone 63 = some rdelTC := rfl
  have g_rmoveT : Γpdone 64 = some rmoveTC := rfl
  have g_rwriteT : Γpdone 14 = some rwriteTC := rfl
  have g_rsizeT : Γpdone 17 = some rsizeTC := rfl
  have g_rmodeT : Γpdone 19 = some rmodeTC := rfl
  simp only [Tryz.f48, Option.getD_some]
  simp (implicitDefEqProofs := false) (decide := true) (maxSteps := 4000000) [ini, g_rmakeT, rmakeTC_eq, g_rlinkT, rlinkTC_eq, g_rdelT, rdelTC_eq, g_rmoveT, rmoveTC_eq, g_rwriteT, rwriteTC_eq, g_rsizeT, rsizeTC_eq, g_rmodeT, rmodeTC_eq]
  obtain ⟨h1, h2, h3, h4, h5⟩ := hr
  have hM := doneT.eq_1 t s own
  generalize doneT t s own = M at hM ⊢
  refine br_intro (fun h => ?_) fun k1 => br_intro (fun h => ?_) fun k2 => br_intro (fun h => ?_) fun k3 => br_intro (fun h => ?_) fun k4 => br_intro (fun h => ?_) fun k5 => br_intro (fun h => ?_) fun k6 => ?_
  · rw [hM, if_pos (by simpa using h)]; exact ⟨⟨h1, h3⟩, rfl, rfl⟩
  · rw [hM, if_neg (by simpa using k1), if_pos (by simpa using h)]; exact ⟨⟨h1, h3, h4⟩, rfl, rfl⟩
  · rw [hM, if_neg (by simpa using k1), if_neg (by simpa using k2), if_pos (by simpa using h)]; exact ⟨⟨h1, h3⟩, rfl, rfl⟩
  · rw [hM, if_neg (by simpa using k1), if_neg (by simpa using k2), if_neg (by simpa using k3), if_pos (by simpa using h)]; exact ⟨⟨h1, h2, h3, h4⟩, rfl, rfl⟩
  · rw [hM, if_neg (by simpa using k1), if_neg (by simpa using k2), if_neg (by simpa using k3), if_neg (by simpa using k4), if_pos (by simpa using h)]; exact ⟨⟨h1, h3, h5⟩, rfl, rfl⟩
  · rw [hM, if_neg (by simpa using k1), if_neg (by simpa using k2), if_neg (by simpa using k3), if_neg (by simpa using k4), if_neg (by simpa using k5), if_pos (by simpa using h)]; exact ⟨⟨h1, h3⟩, rfl, rfl⟩
  · rw [hM, if_neg (by simpa using k1), if_neg (by simpa using k2), if_neg (by simpa using k3), if_neg (by simpa using k4), if_neg (by simpa using k5), if_neg (by simpa using k6)]; exact ⟨⟨h1, h3⟩, rfl, rfl⟩
theorem pdone_ok : ConOK Tryz.prog 48 pdoneC := by
  refine con_ok tab_ok (Γ := Γpdone) (consOK_cons rmakeT_ok (consOK_cons rlinkT_ok (consOK_cons rdelT_ok (consOK_cons rmoveT_ok (consOK_cons rwriteT_ok (consOK_cons rsizeT_ok (consOK_cons rmodeT_ok consOK_nil))))))) (by kernel_rfl) Tryz.func48 (by kernel_rfl) ?_
  intro args out h
  obtain ⟨x, e, h1⟩ := conN_inv h
  clear h
  obtain ⟨t, s, own, x0⟩ := x
  subst e
  replace h1 : (if fitT t ∧ allDeep t ∧ s.2.2.2.2.2.1.size ≤ 4000000000 ∧ s.2.2.2.2.2.2.1.size ≤ 4000000000 ∧ s.2.2.2.2.2.2.2.1.size ≤ 4000000000 then some ⟨.tup [⟨TreeT, (doneT t s own).1⟩, ⟨.int .i64, (doneT t s own).2⟩], []⟩ else none) = some out := h1
  split at h1
  case isFalse => cases h1
  rename_i hr
  injection h1 with h1
  subst h1
  exact ⟨by rw [mkArgs_len]; decide, pdone_ex t s own hr⟩
theorem editP_ok {p : Pk} (h : okP p) : okP (editP p).2 := by
  have h9 := numP_ok h 12
  unfold editP
  generalize editK.getD (numP p 12).1.toNat 0 = kd
  generalize numP p 12 = k at h9 ⊢
  have ha := pathP_ok h9
  unfold editA
  split
  · split
    · exact numP_ok (numP_ok (numP_ok ha 2) 12) 4
    · exact numP_ok (numP_ok ha 2) 12
  split
  · exact pathP_ok ha
  split
  · exact textP_ok (numP_ok ha 8)
  split
  · exact numP_ok ha 8
  split
  · exact numP_ok ha 256
  · exact ha
theorem pathP_small (p : Pk) : (pathP p).1.size ≤ 56 := by
  unfold pathP
  generalize (numP p 15).1.toNat = k
  show (pathL.getD k ⟨#[]⟩).size ≤ 56
  rcases Nat.lt_or_ge k 15 with h | h
  · exact (by decide : ∀ k < 15, (pathL.getD k ⟨#[]⟩).size ≤ 56) k h
  · rw [List.getD_eq_getElem?_getD, List.getElem?_eq_none (by exact h)]; decide
theorem textP_small (p : Pk) : (textP p).1.size ≤ 121 := by
  unfold textP
  simp only
  rw [size_strOf]
  unfold fillP
  rw [List.length_map, List.length_range]
  generalize (numP p 8).1.toNat = k
  rcases Nat.lt_or_ge k 8 with h | h
  · exact (by decide : ∀ k < 8, (lenL.getD k 0).toNat ≤ 121) k h
  · rw [List.getD_eq_getElem?_getD, List.getElem?_eq_none (by exact h)]; decide
theorem editP_small (p : Pk) : (editP p).1.2.2.2.2.2.1.size ≤ 200 ∧ (editP p).1.2.2.2.2.2.2.1.size ≤ 200 ∧ (editP p).1.2.2.2.2.2.2.2.1.size ≤ 200 := by
  have hno : (no : ByteArray).size ≤ 200 := by decide
  have hp : ∀ p : Pk, (pathP p).1.size ≤ 200 := fun p => by have := pathP_small p; omega
  have ht : ∀ p : Pk, (textP p).1.size ≤ 200 := fun p => by have := textP_small p; omega
  unfold editP
  generalize editK.getD (numP p 12).1.toNat 0 = kd
  unfold editA
  split
  · split <;> exact ⟨hp _, hno, hno⟩
  split
  · exact ⟨hp _, hp _, hno⟩
  split
  · exact ⟨hp _, hno, ht _⟩
  split
  · exact ⟨hp _, hno, hno⟩
  split
  · exact ⟨hp _, hno, hno⟩
  · exact ⟨hp _, hno, hno⟩
/-- A tree behind so many changes. -/
noncomputable def grownP : Nat → Pk → List Node → List Node × Pk
  | 0, p, t => (t, p)
  | n + 1, p, t => if (p.1.length : Int) ≤ p.2.1 then (t, p) else grownP n (editP p).2 (doneT t (editP p).1 false).1
theorem grownP_over {n : Nat} {p : Pk} {t : List Node} (h : (p.1.length : Int) ≤ p.2.1) : grownP n p t = (t, p) := by
  cases n with
  | zero => rfl
  | succ n => rw [grownP, if_pos h]
theorem good_grown : ∀ {n : Nat} {p : Pk} {t : List Node}, GoodT t → GoodT (grownP n p t).1
  | 0, _, _, h => h
  | n + 1, p, t, h => by
    unfold grownP
    split
    · exact h
    · exact good_grown (good_doneT h _ _)
theorem grown_ok : ∀ {n : Nat} {p : Pk} {t : List Node}, okP p → okP (grownP n p t).2
  | 0, _, _, h => h
  | n + 1, p, t, h => by
    unfold grownP
    split
    · exact h
    · exact grown_ok (editP_ok h)
noncomputable instance (t : List Node) : Decidable (GoodT t) := Classical.propDecidable _
/-- The contract of (*glacismade.Picks).Grown. -/
noncomputable def pgrownC : Con := conN [(.o, .prod (.slice (.int .u8)) (.prod (.int .i64) .unit)), (.v, TreeT), (.v, .int .i64)] fun (p, t, n, _) => if okP p ∧ GoodT t ∧ 0 ≤ n ∧ n ≤ 1000 then some ⟨.val ⟨TreeT, (grownP n.toNat p t).1⟩, [⟨PkT, (grownP n.toNat p t).2⟩]⟩ else none
theorem pgrownC_eq {p : Ty.den (.prod (.slice (.int .u8)) (.prod (.int .i64) .unit))} {t : Ty.den (TreeT)} {n : Int} : pgrownC [.obj ⟨.prod (.slice (.int .u8)) (.prod (.int .i64) .unit), p⟩, .val ⟨TreeT, t⟩, .val ⟨.int .i64, n⟩] = if okP p ∧ GoodT t ∧ 0 ≤ n ∧ n ≤ 1000 then some ⟨.val ⟨TreeT, (grownP n.toNat p t).1⟩, [⟨PkT, (grownP n.toNat p t).2⟩]⟩ else none := conN_mk (ks := [(.o, .prod (.slice (.int .u8)) (.prod (.int .i64) .unit)), (.v, TreeT), (.v, .int .i64)]) (p, t, n, ())
noncomputable def Γpgrown : Cons := cons [(47, poverC), (49, peditC), (48, pdoneC)]
theorem pgrown_ex (p : Ty.den (.prod (.slice (.int .u8)) (.prod (.int .i64) .unit))) (t : Ty.den (TreeT)) (n : Int) (hr : okP p ∧ GoodT t ∧ 0 ≤ n ∧ n ≤ 1000) : Ex tab Γpgrown (Tryz.f29.body.getD .skip) (EndsF tab Tryz.f29.results.toList [.obj ⟨.prod (.slice (.int .u8)) (.prod (.int .i64) .unit), p⟩, .val ⟨TreeT, t⟩, .val ⟨.int .i64, n⟩] ⟨.val ⟨TreeT, (grownP n.toNat p t).1⟩, [⟨PkT, (grownP n.toNat p t).2⟩]⟩) (ini [.obj ⟨.prod (.slice (.int .u8)) (.prod (.int .i64) .unit), p⟩, .val ⟨TreeT, t⟩, .val ⟨.int .i64, n⟩]) := by
  have g_pover : Γpgrown 47 = some poverC := rfl
  have g_pedit : Γpgrown 49 = some peditC := rfl
  have g_pdone : Γpgrown 48 = some pdoneC := rfl
  simp only [Tryz.f29, Option.getD_some]
  simp (implicitDefEqProofs := false) (decide := true) (maxSteps := 4000000) [ini, g_pover, poverC_eq, g_pedit, peditC_eq, g_pdone, pdoneC_eq]
  obtain ⟨h1, h2, h3, h4⟩ := hr
  refine ex_loopU (σ := Nat × Pk × List Node) [1, 7, 8, 9, 10, 11, 12, 13, 14, 15, 16, 17, 18, 19, 20, 21, 22, 23, 24, 1000000] (fun a => [(7, .val (.int .i64) (a.1 : Int)), (1, .val TreeT a.2.2), (1000000, .obj 0 PkT a.2.1)])
    (fun a => (a.1 : Int) ≤ n ∧ okP a.2.1 ∧ GoodT a.2.2 ∧ grownP (n.toNat - a.1) a.2.1 a.2.2 = grownP n.toNat p t) (fun a => n.toNat - a.1) (0, p, t) ⟨by simp only; omega, h1, h2, rfl⟩ (hc rfl (hc rfl (hc rfl hn))) ?_
  rintro j ⟨i, p', t'⟩ ⟨g1, g2, g3, g4⟩
  simp only at g1 g2 g3 g4
  simp (implicitDefEqProofs := false) (decide := true) (maxSteps := 4000000) [ini, g_pover, poverC_eq, g_pedit, peditC_eq, g_pdone, pdoneC_eq]
  have hsm := editP_small p'
  refine br_dec (fun hlt => br_intro (fun hno => ?_) fun hov => ?_) fun hge => ?_
  · have hno : ¬ (p'.1.length : Int) ≤ p'.2.1 := by simpa using hno
    refine ⟨g2, ⟨g3.fit, g3.deep, by omega, by omega, by omega⟩, i + 1, (editP p').2.1, (editP p').2.2.1, (editP p').2.2.2, _, ⟨by omega, editP_ok g2, good_doneT g3 _ _, ?_⟩, by omega, w_nat rfl (by omega), rfl, rfl⟩
    rw [← g4, show n.toNat - i = (n.toNat - (i + 1)) + 1 by omega, grownP, if_neg hno]
  · have hov : (p'.1.length : Int) ≤ p'.2.1 := by simpa using hov
    rw [← g4, grownP_over hov]; exact ⟨rfl, rfl⟩
  · rw [← g4, show n.toNat - i = 0 by omega]; exact ⟨rfl, rfl⟩
theorem pgrown_ok : ConOK Tryz.prog 29 pgrownC := by
  refine con_ok tab_ok (Γ := Γpgrown) (consOK_cons pover_ok (consOK_cons pedit_ok (consOK_cons pdone_ok consOK_nil))) (by kernel_rfl) Tryz.func29 (by kernel_rfl) ?_
  intro args out h
  obtain ⟨x, e, h1⟩ := conN_inv h
  clear h
  obtain ⟨p, t, n, x0⟩ := x
  subst e
  replace h1 : (if okP p ∧ GoodT t ∧ 0 ≤ n ∧ n ≤ 1000 then some ⟨.val ⟨TreeT, (grownP n.toNat p t).1⟩, [⟨PkT, (grownP n.toNat p t).2⟩]⟩ else none) = some out := h1
  split at h1
  case isFalse => cases h1
  rename_i hr
  injection h1 with h1
  subst h1
  exact ⟨by rw [mkArgs_len]; decide, pgrown_ex p t n hr⟩
theorem newT_at {i : Int} (h1 : 1 ≤ i) (h2 : i ≤ 9) : nodeT newT i = if i = 1 then (2, 7, no, ()) else dfltN := by
  have : i = 1 ∨ i = 2 ∨ i = 3 ∨ i = 4 ∨ i = 5 ∨ i = 6 ∨ i = 7 ∨ i = 8 ∨ i = 9 := by omega
  rcases this with e | e | e | e | e | e | e | e | e <;> subst e <;> rfl
theorem newT_names (i : Int) : namesT newT i = [] := by
  by_cases h : 1 ≤ i ∧ i ≤ 9
  · by_cases e : i = 1
    · subst e
      rw [names_in (by decide) (by decide) (by unfold kindT; rw [newT_at (by decide) (by decide)]; rfl)]
      unfold bodyT
      rw [newT_at (by decide) (by decide), if_pos rfl, takeD_no]
    · exact names_file (by unfold kindT; rw [newT_at h.1 h.2, if_neg e]; decide)
  · unfold namesT
    rw [if_pos (by have : newT.length = 9 := rfl; omega)]
theorem newT_cnt (ino : Int) : ∀ n, cntT newT ino n = 0
  | 0 => rfl
  | n + 1 => by rw [cntT_succ, newT_cnt ino n, newT_names]; rfl
theorem newT_good : GoodT newT := by
  have hk : ∀ i, 1 ≤ i → i ≤ 9 → kindT newT i = if i = 1 then 2 else 0 := fun i a b => by
    unfold kindT
    rw [newT_at a b]
    split <;> rfl
  refine ⟨rfl, fun i a b => ?_, fun i a b c => ?_, fun i a b => ?_, fun i a b => ?_, fun i a b c => ?_, rfl, fun i e he => ?_, fun i a b c => ?_, newT_cnt 1 9, fun i a b c => ?_, fun i => ⟨1, fun e he => ?_⟩⟩
  · rw [hk i a b]; split <;> simp
  · rw [hk i a b] at c
    rw [newT_at a b]
    split at c
    · cases c
    · rename_i e; rw [if_neg e]
  · rw [newT_at a b]; split <;> exact ⟨by decide, by decide⟩
  · unfold bodyT
    rw [newT_at a b]; split <;> decide
  · unfold bodyT
    rw [newT_at a b]
    split <;> exact congrArg Prod.snd takeD_no
  · rw [newT_names] at he; cases he
  · rw [hk i (by omega) b, if_neg (by omega)] at c; exact absurd rfl c
  · rw [hk i (by omega) b, if_neg (by omega)] at c; cases c
  · rw [newT_names] at he; cases he
/-- The contract of (*glacismade.Picks).Tree. -/
noncomputable def ptreeC : Con := conN [(.o, .prod (.slice (.int .u8)) (.prod (.int .i64) .unit)), (.v, .int .i64)] fun (p, n, _) => if okP p ∧ 0 ≤ n ∧ n ≤ 1000 then some ⟨.val ⟨TreeT, (grownP n.toNat p newT).1⟩, [⟨PkT, (grownP n.toNat p newT).2⟩]⟩ else none
theorem ptreeC_eq {p : Ty.den (.prod (.slice (.int .u8)) (.prod (.int .i64) .unit))} {n : Int} : ptreeC [.obj ⟨.prod (.slice (.int .u8)) (.prod (.int .i64) .unit), p⟩, .val ⟨.int .i64, n⟩] = if okP p ∧ 0 ≤ n ∧ n ≤ 1000 then some ⟨.val ⟨TreeT, (grownP n.toNat p newT).1⟩, [⟨PkT, (grownP n.toNat p newT).2⟩]⟩ else none := conN_mk (ks := [(.o, .prod (.slice (.int .u8)) (.prod (.int .i64) .unit)), (.v, .int .i64)]) (p, n, ())
noncomputable def Γptree : Cons := cons [(28, rnewTC), (29, pgrownC)]
theorem ptree_ex (p : Ty.den (.prod (.slice (.int .u8)) (.prod (.int .i64) .unit))) (n : Int) (hr : okP p ∧ 0 ≤ n ∧ n ≤ 1000) : Ex tab Γptree (Tryz.f7.body.getD .skip) (EndsF tab Tryz.f7.results.toList [.obj ⟨.prod (.slice (.int .u8)) (.prod (.int .i64) .unit), p⟩, .val ⟨.int .i64, n⟩] ⟨.val ⟨TreeT, (grownP n.toNat p newT).1⟩, [⟨PkT, (grownP n.toNat p newT).2⟩]⟩) (ini [.obj ⟨.prod (.slice (.int .u8)) (.prod (.int .i64) .unit), p⟩, .val ⟨.int .i64, n⟩]) := by
  have g_rnewT : Γptree 28 = some rnewTC := rfl
  have g_pgrown : Γptree 29 = some pgrownC := rfl
  simp only [Tryz.f7, Option.getD_some]
  simp (implicitDefEqProofs := false) (decide := true) (maxSteps := 4000000) [ini, g_rnewT, rnewTC_eq, g_pgrown, pgrownC_eq]
  exact ⟨hr.1, newT_good, hr.2⟩
theorem ptree_ok : ConOK Tryz.prog 7 ptreeC := by
  refine con_ok tab_ok (Γ := Γptree) (consOK_cons rnewT_ok (consOK_cons pgrown_ok consOK_nil)) (by kernel_rfl) Tryz.func7 (by kernel_rfl) ?_
  intro args out h
  obtain ⟨x, e, h1⟩ := conN_inv h
  clear h
  obtain ⟨p, n, x0⟩ := x
  subst e
  replace h1 : (if okP p ∧ 0 ≤ n ∧ n ≤ 1000 then some ⟨.val ⟨TreeT, (grownP n.toNat p newT).1⟩, [⟨PkT, (grownP n.toNat p newT).2⟩]⟩ else none) = some out := h1
  split at h1
  case isFalse => cases h1
  rename_i hr
  injection h1 with h1
  subst h1
  exact ⟨by rw [mkArgs_len]; decide, ptree_ex p n hr⟩
end Go.Proofs.YthhjlbpmpffapaaGreatDoor
