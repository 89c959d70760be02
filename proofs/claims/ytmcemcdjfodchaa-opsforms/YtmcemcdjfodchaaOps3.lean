/- ops: steps are read. -/
import Derived.Test.YtmcemcdjfodchaaOps2
set_option maxRecDepth 10000
set_option maxHeartbeats 4000000
set_option linter.unusedSimpArgs false
set_option linter.unusedVariables false
set_option pp.deepTerms.threshold 12
namespace Go.Proofs.Ytmcemcdjfodchaa
open Go.Tm Go.IntWalk
/-- What is left is an end of what was there. -/
structure Left (r s : Rd) : Prop where mk ::
  isB : isB r.1 → isB s.1
  len : s.1.length ≤ r.1.length
theorem Left.refl {r : Rd} : Left r r := ⟨id, Nat.le_refl _⟩
theorem Left.trans {r s t : Rd} (h : Left r s) (k : Left s t) : Left r t := ⟨fun x => k.isB (h.isB x), Nat.le_trans k.len h.len⟩
theorem numS_left {r : Rd} {n : Int} : Left r (numS r n).2 := by
  unfold numS
  split
  · exact ⟨id, Nat.le_refl _⟩
  · exact ⟨fun h => isB_drop h _, by simp only [List.length_drop]; omega⟩
theorem textR_left {r : Rd} : Left r (textR r).2 := by
  unfold textR
  split
  · exact ⟨id, Nat.le_refl _⟩
  · exact ⟨fun h => isB_drop h _, by simp only [List.length_drop]; omega⟩
theorem keepN_left : ∀ (k : Nat) {r : Rd}, Left r (keepN k r).2
  | 0, r => Left.refl
  | k + 1, r => numS_left.trans (keepN_left k)
theorem keepR_left {r : Rd} : Left r (keepR r).2 := by
  unfold keepR
  split
  · exact ⟨numS_left.isB, numS_left.len⟩
  · exact numS_left.trans (keepN_left _)
theorem stepR_left (k : Int) {r : Rd} : Left r (stepR k r).2 := by
  have h1 : Left r (if k ≤ 10 then textR (numS r 1).2 else (no, (numS r 1).2)).2 := by
    split
    · exact numS_left.trans textR_left
    · exact numS_left
  unfold stepR
  simp only
  repeat' first
    | exact h1.trans numS_left
    | exact h1.trans textR_left
    | exact h1.trans (numS_left.trans textR_left)
    | exact h1.trans (numS_left.trans numS_left)
    | exact h1.trans keepR_left
    | exact h1
    | split
    | fail
def stepsN : Nat → List Int → List Step
  | 0, _ => []
  | _ + 1, [] => []
  | f + 1, x :: l => if x.tmod 21 = 0 then stepsN f l else if (stepR (x.tmod 21) (rdO l)).2.2.1 = true then [] else (stepR (x.tmod 21) (rdO l)).1 :: stepsN f (stepR (x.tmod 21) (rdO l)).2.1
def stepsD (b : List Int) : List Step := stepsN b.length b
theorem stepsN_more : ∀ {f : Nat} {b : List Int}, b.length ≤ f → stepsN f b = stepsD b := by
  have key : ∀ (n : Nat) (b : List Int), b.length ≤ n → ∀ f g, b.length ≤ f → b.length ≤ g → stepsN f b = stepsN g b := by
    intro n
    induction n with
    | zero =>
      intro b h f g _ _
      obtain rfl := List.eq_nil_of_length_eq_zero (Nat.le_zero.1 h)
      cases f <;> cases g <;> rfl
    | succ n ih =>
      intro b h f g hf hg
      cases b with
      | nil => cases f <;> cases g <;> rfl
      | cons x l =>
        simp only [List.length_cons] at h hf hg
        cases f with
        | zero => omega
        | succ f =>
          cases g with
          | zero => omega
          | succ g =>
            have hl := (stepR_left (x.tmod 21) (r := rdO l)).len
            rw [rdO_1] at hl
            simp only [stepsN]
            rw [ih l (by omega) f g (by omega) (by omega), ih (stepR (x.tmod 21) (rdO l)).2.1 (by omega) f g (by omega) (by omega)]
  intro f b h
  exact key b.length b (Nat.le_refl _) f b.length h (Nat.le_refl _)
theorem stepsD_nil : stepsD [] = [] := rfl
theorem stepsD_cons {x : Int} {l : List Int} : stepsD (x :: l) = if x.tmod 21 = 0 then stepsD l else if (stepR (x.tmod 21) (rdO l)).2.2.1 = true then [] else (stepR (x.tmod 21) (rdO l)).1 :: stepsD (stepR (x.tmod 21) (rdO l)).2.1 := by
  have hl := (stepR_left (x.tmod 21) (r := rdO l)).len
  rw [rdO_1] at hl
  show stepsN (l.length + 1) (x :: l) = _
  rw [stepsN, stepsN_more (Nat.le_refl _), stepsN_more hl]
theorem stepsD_len : ∀ {n : Nat} {b : List Int}, b.length ≤ n → (stepsD b).length ≤ n
  | 0, b, h => by
    obtain rfl := List.eq_nil_of_length_eq_zero (Nat.le_zero.1 h)
    exact Nat.le_refl _
  | n + 1, [], h => Nat.zero_le _
  | n + 1, x :: l, h => by
    simp only [List.length_cons] at h
    have hl := (stepR_left (x.tmod 21) (r := rdO l)).len
    rw [rdO_1] at hl
    rw [stepsD_cons]
    split
    · exact Nat.le_succ_of_le (stepsD_len (by omega))
    · split
      · exact Nat.zero_le _
      · rw [List.length_cons]
        exact Nat.succ_le_succ (stepsD_len (by omega))
/-- The contract of ops.Take. -/
def ostepsC : Con := conN [(.v, .slice (.int .u8))] fun (b, _) => if isB b ∧ b.length ≤ 1000000000 then some ⟨.own StepT (stepsD b), []⟩ else none
theorem ostepsC_eq {b : List Int} : ostepsC [.val ⟨.slice (.int .u8), b⟩] = if isB b ∧ b.length ≤ 1000000000 then some ⟨.own StepT (stepsD b), []⟩ else none := conN_mk (ks := [(.v, .slice (.int .u8))]) (b, ())
def Γosteps : Cons := cons [(20, cloneC), (22, onumC), (23, ostepC)]
theorem osteps_ex (b : List Int) (hr : isB b ∧ b.length ≤ 1000000000) : ExDef tab Γosteps 21 (Try.f13.body.getD .skip) (EndsX tab (fun p => p = shortE) Try.f13.results.toList [.val ⟨.slice (.int .u8), b⟩] ⟨.own StepT (stepsD b), []⟩) (ini [.val ⟨.slice (.int .u8), b⟩]) := by
  have g_clone : Γosteps 20 = some cloneC := rfl
  have g_onum : Γosteps 22 = some onumC := rfl
  have g_ostep : Γosteps 23 = some ostepC := rfl
  simp only [Try.f13, Option.getD_some]
  simp (implicitDefEqProofs := false) (decide := true) (maxSteps := 4000000) [ini, g_clone, cloneC_eq, g_onum, onumC_eq, g_ostep, ostepC_eq]
  obtain ⟨hb, hlen⟩ := hr
  intro m
  refine ⟨by omega, ?_⟩
  refine ex_loopN 2 StepT rfl (σ := Nat × List Step × List Int) (Dn [2, 3, 4] 9 17) (fun a => [(2, .own a.1 StepT a.2.1), (3, .obj (m + 1 + 1 + 1 + 1) (.prod (.slice (.int .u8)) .unit) (a.2.2, ()))]) (fun a => isB a.2.2 ∧ a.2.1.length + a.2.2.length ≤ b.length ∧ stepsD b = a.2.1 ++ stepsD a.2.2) (fun a => a.2.2.length) (fun m2 => ⟨(m2, [], b), ⟨hb, by simp, rfl⟩, hc rfl (hc rfl hn)⟩) ?_
  rintro m3 j ⟨q, row, rest⟩ ⟨h1, h2, h3⟩
  simp only at h1 h2 h3
  cases rest with
  | nil =>
    simp (implicitDefEqProofs := false) (decide := true) (maxSteps := 4000000) [ini, g_clone, cloneC_eq, g_onum, onumC_eq, g_ostep, ostepC_eq]
    rw [h3, stepsD_nil, List.append_nil]
  | cons x l =>
    have hx := h1 x (List.mem_cons_self ..)
    have hl : isB l := fun y hy => h1 y (List.mem_cons_of_mem _ hy)
    have ht := takeS_one h1
    rw [stepsD_cons] at h3
    have hlen2 : (0 : Int) < ((l.length : Int) + 1) := by omega
    simp (implicitDefEqProofs := false) (decide := true) (maxSteps := 4000000) [ini, g_clone, cloneC_eq, g_onum, onumC_eq, g_ostep, ostepC_eq, ht, hlen2]
    have k1 : 0 ≤ x.tmod 21 := Int.tmod_nonneg _ hx.1
    have k2 : x.tmod 21 < 21 := Int.tmod_lt_of_pos _ (by decide)
    have hlf := stepR_left (x.tmod 21) (r := rdO l)
    have hll := hlf.len
    rw [rdO_1] at hll
    simp only [List.length_cons] at h2
    refine fun _ => br_dec (fun hk m4 => ⟨⟨hl, by omega, by omega⟩, br_intro (fun ho => ?_) fun ho => ?_⟩) fun hk => ?_
    · rw [if_neg (by omega), if_neg (by rw [not_t ho]; decide)] at h3
      refine ⟨by omega, _, row ++ [(stepR (x.tmod 21) (rdO l)).1], (stepR (x.tmod 21) (rdO l)).2.1, ⟨hlf.isB hl, ?_, ?_⟩, by omega, ⟨rfl, rfl⟩, rfl⟩
      · rw [List.length_append, List.length_singleton]; omega
      · rw [h3]; simp
    · rw [if_neg (by omega), if_pos (not_f ho), List.append_nil] at h3
      exact h3.symm
    · rw [if_pos (by omega)] at h3
      exact ⟨_, row, l, ⟨hl, by omega, h3⟩, by omega, ⟨rfl, rfl⟩, rfl⟩
theorem osteps_ok : ConOK Try.prog 13 ostepsC := by
  refine con_okD take_catch tab_ok (Γ := Γosteps) (consOK_cons clone_ok (consOK_cons onum_ok (consOK_cons ostep_ok consOK_nil))) (by kernel_rfl) Try.func13 (by kernel_rfl) ?_
  intro args out h
  obtain ⟨x, e, h1⟩ := conN_inv h
  clear h
  obtain ⟨b, x0⟩ := x
  subst e
  replace h1 : (if isB b ∧ b.length ≤ 1000000000 then some ⟨.own StepT (stepsD b), []⟩ else none) = some out := h1
  split at h1
  case isFalse => cases h1
  rename_i hr
  injection h1 with h1
  subst h1
  exact ⟨by rw [mkArgs_len]; decide, osteps_ex b hr⟩
end Go.Proofs.Ytmcemcdjfodchaa
