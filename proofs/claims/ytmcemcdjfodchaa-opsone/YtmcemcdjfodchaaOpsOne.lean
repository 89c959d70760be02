import Derived.Test.YtmcemcdjfodchaaOps10
set_option maxRecDepth 10000
set_option maxHeartbeats 4000000
set_option linter.unusedSimpArgs false
set_option linter.unusedVariables false
set_option pp.deepTerms.threshold 14
namespace Go.Proofs.Ytmcemcdjfodchaa
open Go.Tm Go.IntWalk
attribute [-instance] Go.Tm.instDecidableIndep
theorem one_all {s : Step} (h : ValidS s) {I : Prop} (hI : I) {d : Step} : allSz [s] ∧ (isB (putL [s]) ∧ (putL [s]).length ≤ 1000000000) ∧ ((stepsD (putL [s])).length : Int) = 1 ∧ 0 < (stepsD (putL [s])).length ∧ I ∧ sameS ((stepsD (putL [s]))[0]?.getD d) s = true := by
  have hv : ∀ x ∈ [s], ValidS x := fun x hx => by rw [List.mem_singleton.1 hx]; exact h
  have e := stepsD_putL hv []
  rw [List.append_nil, stepsD_nil, List.append_nil] at e
  have hl := putL_len hv
  rw [List.length_singleton] at hl
  refine ⟨valid_sz hv, ⟨isB_putL _, by omega⟩, by rw [e]; rfl, by rw [e]; exact Nat.one_pos, hI, ?_⟩
  rw [e]
  exact sameS_self s
def ΓopsOne : Cons := cons [(9, obegunC), (13, ostepsC), (15, oPutC), (17, rsame1C)]
theorem ΓopsOne_ok : ConsOK Try.prog ΓopsOne := (consOK_cons obegun_ok (consOK_cons osteps_ok (consOK_cons oPut_ok (consOK_cons rsame1_ok consOK_nil))))
theorem opsOne_ex : LawEx tab ΓopsOne Try.f7 [.int .u8, .int .u8, .int .u8, .int .u8, .int .u16, .str, .str, .str, .slice .bool] := by
  intro l h1 h2
  obtain ⟨kind, l1, rfl, e1⟩ := types_cons h1
  obtain ⟨v, l2, rfl, e2⟩ := types_cons e1
  obtain ⟨n, l3, rfl, e3⟩ := types_cons e2
  obtain ⟨id, l4, rfl, e4⟩ := types_cons e3
  obtain ⟨off, l5, rfl, e5⟩ := types_cons e4
  obtain ⟨path, l6, rfl, e6⟩ := types_cons e5
  obtain ⟨to, l7, rfl, e7⟩ := types_cons e6
  obtain ⟨text, l8, rfl, e8⟩ := types_cons e7
  obtain ⟨keep, l9, rfl, e9⟩ := types_cons e8
  obtain rfl := types_nil e9
  clear h1 e1 e2 e3 e4 e5 e6 e7 e8 e9
  have g_obegun : ΓopsOne 9 = some obegunC := rfl
  have g_osteps : ΓopsOne 13 = some ostepsC := rfl
  have g_oPut : ΓopsOne 15 = some oPutC := rfl
  have g_rsame1 : ΓopsOne 17 = some rsame1C := rfl
  obtain ⟨n_kind, rfl, h_kind⟩ := okv_u8 (h2 ⟨_, kind⟩ (by simp))
  obtain ⟨n_v, rfl, h_v⟩ := okv_u8 (h2 ⟨_, v⟩ (by simp))
  obtain ⟨n_n, rfl, h_n⟩ := okv_u8 (h2 ⟨_, n⟩ (by simp))
  obtain ⟨n_id, rfl, h_id⟩ := okv_u8 (h2 ⟨_, id⟩ (by simp))
  obtain ⟨n_off, rfl, h_off⟩ := okv_u16 (h2 ⟨_, off⟩ (by simp))
  clear h2
  have hk0 : ∀ k : Nat, k < 20 → (k = 0 ∨ k = 1 ∨ k = 2 ∨ k = 3 ∨ k = 4 ∨ k = 5 ∨ k = 6 ∨ k = 7 ∨ k = 8 ∨ k = 9 ∨ k = 10 ∨ k = 11 ∨ k = 12 ∨ k = 13 ∨ k = 14 ∨ k = 15 ∨ k = 16 ∨ k = 17 ∨ k = 18 ∨ k = 19) := by omega
  have hk := hk0 (n_kind % 20) (by omega)
  clear hk0
  have ev : IntKind.i64.wrap ((n_v : Int).tmod 2) = ((n_v % 2 : Nat) : Int) := w_nat rfl (by omega)
  have en : IntKind.i64.wrap (n_n : Int) = (n_n : Int) := w_nat rfl (by omega)
  have ei : IntKind.i64.wrap (n_id : Int) = (n_id : Int) := w_nat rfl (by omega)
  have eo : IntKind.i64.wrap (n_off : Int) = (n_off : Int) := w_nat rfl (by omega)
  have vv : n_v % 2 < 2 := by omega
  generalize n_v % 2 = w at *
  have ek : (n_kind : Int).tmod 20 = ((n_kind % 20 : Nat) : Int) := rfl
  rcases hk with hk | hk | hk | hk | hk | hk | hk | hk | hk | hk | hk | hk | hk | hk | hk | hk | hk | hk | hk | hk
  · rw [hk] at ek
    have e1 : IntKind.i64.wrap ((n_kind : Int).tmod 20) = 0 := by rw [ek]; decide
    have e2 : IntKind.i64.wrap 1 = 1 := by decide
    simp only [Try.f7, Option.getD_some]
    simp (implicitDefEqProofs := false) (decide := true) (maxSteps := 4000000) [ini, g_obegun, obegunC_eq, g_osteps, ostepsC_eq, g_oPut, oPutC_eq, g_rsame1, rsame1C_eq, e1, e2, ev, en, ei, eo]
    intro z1 z2 z3 _ z4
    have z1' : path.size ≤ 255 := by omega
    have z2' : to.size ≤ 255 := by omega
    have z3' : text.size ≤ 255 := by omega
    have z4' : keep.length ≤ 40 := by omega
    clear e1 e2 ek hk ev en ei eo h_kind h_v
    refine one_all ?_ (indep_fast (by decide +kernel))
    constructor
    all_goals first
      | exact z1'
      | exact z2'
      | exact z3'
      | exact z4'
      | exact (show (⟨#[]⟩ : ByteArray).size ≤ 255 by decide)
      | (simp only; omega)
      | simp
      | fail
  · rw [hk] at ek
    have e1 : IntKind.i64.wrap ((n_kind : Int).tmod 20) = 1 := by rw [ek]; decide
    have e2 : IntKind.i64.wrap 2 = 2 := by decide
    simp only [Try.f7, Option.getD_some]
    simp (implicitDefEqProofs := false) (decide := true) (maxSteps := 4000000) [ini, g_obegun, obegunC_eq, g_osteps, ostepsC_eq, g_oPut, oPutC_eq, g_rsame1, rsame1C_eq, e1, e2, ev, en, ei, eo]
    intro z1 z2 z3 _ z4
    have z1' : path.size ≤ 255 := by omega
    have z2' : to.size ≤ 255 := by omega
    have z3' : text.size ≤ 255 := by omega
    have z4' : keep.length ≤ 40 := by omega
    clear e1 e2 ek hk ev en ei eo h_kind h_v
    refine one_all ?_ (indep_fast (by decide +kernel))
    constructor
    all_goals first
      | exact z1'
      | exact z2'
      | exact z3'
      | exact z4'
      | exact (show (⟨#[]⟩ : ByteArray).size ≤ 255 by decide)
      | (simp only; omega)
      | simp
      | fail
  · rw [hk] at ek
    have e1 : IntKind.i64.wrap ((n_kind : Int).tmod 20) = 2 := by rw [ek]; decide
    have e2 : IntKind.i64.wrap 3 = 3 := by decide
    simp only [Try.f7, Option.getD_some]
    simp (implicitDefEqProofs := false) (decide := true) (maxSteps := 4000000) [ini, g_obegun, obegunC_eq, g_osteps, ostepsC_eq, g_oPut, oPutC_eq, g_rsame1, rsame1C_eq, e1, e2, ev, en, ei, eo]
    intro z1 z2 z3 _ z4
    have z1' : path.size ≤ 255 := by omega
    have z2' : to.size ≤ 255 := by omega
    have z3' : text.size ≤ 255 := by omega
    have z4' : keep.length ≤ 40 := by omega
    clear e1 e2 ek hk ev en ei eo h_kind h_v
    refine one_all ?_ (indep_fast (by decide +kernel))
    constructor
    all_goals first
      | exact z1'
      | exact z2'
      | exact z3'
      | exact z4'
      | exact (show (⟨#[]⟩ : ByteArray).size ≤ 255 by decide)
      | (simp only; omega)
      | simp
      | fail
  · rw [hk] at ek
    have e1 : IntKind.i64.wrap ((n_kind : Int).tmod 20) = 3 := by rw [ek]; decide
    have e2 : IntKind.i64.wrap 4 = 4 := by decide
    simp only [Try.f7, Option.getD_some]
    simp (implicitDefEqProofs := false) (decide := true) (maxSteps := 4000000) [ini, g_obegun, obegunC_eq, g_osteps, ostepsC_eq, g_oPut, oPutC_eq, g_rsame1, rsame1C_eq, e1, e2, ev, en, ei, eo]
    intro z1 z2 z3 _ z4
    have z1' : path.size ≤ 255 := by omega
    have z2' : to.size ≤ 255 := by omega
    have z3' : text.size ≤ 255 := by omega
    have z4' : keep.length ≤ 40 := by omega
    clear e1 e2 ek hk ev en ei eo h_kind h_v
    refine one_all ?_ (indep_fast (by decide +kernel))
    constructor
    all_goals first
      | exact z1'
      | exact z2'
      | exact z3'
      | exact z4'
      | exact (show (⟨#[]⟩ : ByteArray).size ≤ 255 by decide)
      | (simp only; omega)
      | simp
      | fail
  · rw [hk] at ek
    have e1 : IntKind.i64.wrap ((n_kind : Int).tmod 20) = 4 := by rw [ek]; decide
    have e2 : IntKind.i64.wrap 5 = 5 := by decide
    simp only [Try.f7, Option.getD_some]
    simp (implicitDefEqProofs := false) (decide := true) (maxSteps := 4000000) [ini, g_obegun, obegunC_eq, g_osteps, ostepsC_eq, g_oPut, oPutC_eq, g_rsame1, rsame1C_eq, e1, e2, ev, en, ei, eo]
    intro z1 z2 z3 _ z4
    have z1' : path.size ≤ 255 := by omega
    have z2' : to.size ≤ 255 := by omega
    have z3' : text.size ≤ 255 := by omega
    have z4' : keep.length ≤ 40 := by omega
    clear e1 e2 ek hk ev en ei eo h_kind h_v
    refine one_all ?_ (indep_fast (by decide +kernel))
    constructor
    all_goals first
      | exact z1'
      | exact z2'
      | exact z3'
      | exact z4'
      | exact (show (⟨#[]⟩ : ByteArray).size ≤ 255 by decide)
      | (simp only; omega)
      | simp
      | fail
  · rw [hk] at ek
    have e1 : IntKind.i64.wrap ((n_kind : Int).tmod 20) = 5 := by rw [ek]; decide
    have e2 : IntKind.i64.wrap 6 = 6 := by decide
    simp only [Try.f7, Option.getD_some]
    simp (implicitDefEqProofs := false) (decide := true) (maxSteps := 4000000) [ini, g_obegun, obegunC_eq, g_osteps, ostepsC_eq, g_oPut, oPutC_eq, g_rsame1, rsame1C_eq, e1, e2, ev, en, ei, eo]
    intro z1 z2 z3 _ z4
    have z1' : path.size ≤ 255 := by omega
    have z2' : to.size ≤ 255 := by omega
    have z3' : text.size ≤ 255 := by omega
    have z4' : keep.length ≤ 40 := by omega
    clear e1 e2 ek hk ev en ei eo h_kind h_v
    refine one_all ?_ (indep_fast (by decide +kernel))
    constructor
    all_goals first
      | exact z1'
      | exact z2'
      | exact z3'
      | exact z4'
      | exact (show (⟨#[]⟩ : ByteArray).size ≤ 255 by decide)
      | (simp only; omega)
      | simp
      | fail
  · rw [hk] at ek
    have e1 : IntKind.i64.wrap ((n_kind : Int).tmod 20) = 6 := by rw [ek]; decide
    have e2 : IntKind.i64.wrap 7 = 7 := by decide
    simp only [Try.f7, Option.getD_some]
    simp (implicitDefEqProofs := false) (decide := true) (maxSteps := 4000000) [ini, g_obegun, obegunC_eq, g_osteps, ostepsC_eq, g_oPut, oPutC_eq, g_rsame1, rsame1C_eq, e1, e2, ev, en, ei, eo]
    intro z1 z2 z3 _ z4
    have z1' : path.size ≤ 255 := by omega
    have z2' : to.size ≤ 255 := by omega
    have z3' : text.size ≤ 255 := by omega
    have z4' : keep.length ≤ 40 := by omega
    clear e1 e2 ek hk ev en ei eo h_kind h_v
    refine one_all ?_ (indep_fast (by decide +kernel))
    constructor
    all_goals first
      | exact z1'
      | exact z2'
      | exact z3'
      | exact z4'
      | exact (show (⟨#[]⟩ : ByteArray).size ≤ 255 by decide)
      | (simp only; omega)
      | simp
      | fail
  · rw [hk] at ek
    have e1 : IntKind.i64.wrap ((n_kind : Int).tmod 20) = 7 := by rw [ek]; decide
    have e2 : IntKind.i64.wrap 8 = 8 := by decide
    simp only [Try.f7, Option.getD_some]
    simp (implicitDefEqProofs := false) (decide := true) (maxSteps := 4000000) [ini, g_obegun, obegunC_eq, g_osteps, ostepsC_eq, g_oPut, oPutC_eq, g_rsame1, rsame1C_eq, e1, e2, ev, en, ei, eo]
    intro z1 z2 z3 _ z4
    have z1' : path.size ≤ 255 := by omega
    have z2' : to.size ≤ 255 := by omega
    have z3' : text.size ≤ 255 := by omega
    have z4' : keep.length ≤ 40 := by omega
    clear e1 e2 ek hk ev en ei eo h_kind h_v
    refine one_all ?_ (indep_fast (by decide +kernel))
    constructor
    all_goals first
      | exact z1'
      | exact z2'
      | exact z3'
      | exact z4'
      | exact (show (⟨#[]⟩ : ByteArray).size ≤ 255 by decide)
      | (simp only; omega)
      | simp
      | fail
  · rw [hk] at ek
    have e1 : IntKind.i64.wrap ((n_kind : Int).tmod 20) = 8 := by rw [ek]; decide
    have e2 : IntKind.i64.wrap 9 = 9 := by decide
    simp only [Try.f7, Option.getD_some]
    simp (implicitDefEqProofs := false) (decide := true) (maxSteps := 4000000) [ini, g_obegun, obegunC_eq, g_osteps, ostepsC_eq, g_oPut, oPutC_eq, g_rsame1, rsame1C_eq, e1, e2, ev, en, ei, eo]
    intro z1 z2 z3 _ z4
    have z1' : path.size ≤ 255 := by omega
    have z2' : to.size ≤ 255 := by omega
    have z3' : text.size ≤ 255 := by omega
    have z4' : keep.length ≤ 40 := by omega
    clear e1 e2 ek hk ev en ei eo h_kind h_v
    refine one_all ?_ (indep_fast (by decide +kernel))
    constructor
    all_goals first
      | exact z1'
      | exact z2'
      | exact z3'
      | exact z4'
      | exact (show (⟨#[]⟩ : ByteArray).size ≤ 255 by decide)
      | (simp only; omega)
      | simp
      | fail
  · rw [hk] at ek
    have e1 : IntKind.i64.wrap ((n_kind : Int).tmod 20) = 9 := by rw [ek]; decide
    have e2 : IntKind.i64.wrap 10 = 10 := by decide
    simp only [Try.f7, Option.getD_some]
    simp (implicitDefEqProofs := false) (decide := true) (maxSteps := 4000000) [ini, g_obegun, obegunC_eq, g_osteps, ostepsC_eq, g_oPut, oPutC_eq, g_rsame1, rsame1C_eq, e1, e2, ev, en, ei, eo]
    intro z1 z2 z3 _ z4
    have z1' : path.size ≤ 255 := by omega
    have z2' : to.size ≤ 255 := by omega
    have z3' : text.size ≤ 255 := by omega
    have z4' : keep.length ≤ 40 := by omega
    clear e1 e2 ek hk ev en ei eo h_kind h_v
    refine one_all ?_ (indep_fast (by decide +kernel))
    constructor
    all_goals first
      | exact z1'
      | exact z2'
      | exact z3'
      | exact z4'
      | exact (show (⟨#[]⟩ : ByteArray).size ≤ 255 by decide)
      | (simp only; omega)
      | simp
      | fail
  · rw [hk] at ek
    have e1 : IntKind.i64.wrap ((n_kind : Int).tmod 20) = 10 := by rw [ek]; decide
    have e2 : IntKind.i64.wrap 11 = 11 := by decide
    simp only [Try.f7, Option.getD_some]
    simp (implicitDefEqProofs := false) (decide := true) (maxSteps := 4000000) [ini, g_obegun, obegunC_eq, g_osteps, ostepsC_eq, g_oPut, oPutC_eq, g_rsame1, rsame1C_eq, e1, e2, ev, en, ei, eo]
    intro z1 z2 z3 _ z4
    have z1' : path.size ≤ 255 := by omega
    have z2' : to.size ≤ 255 := by omega
    have z3' : text.size ≤ 255 := by omega
    have z4' : keep.length ≤ 40 := by omega
    clear e1 e2 ek hk ev en ei eo h_kind h_v
    refine one_all ?_ (indep_fast (by decide +kernel))
    constructor
    all_goals first
      | exact z1'
      | exact z2'
      | exact z3'
      | exact z4'
      | exact (show (⟨#[]⟩ : ByteArray).size ≤ 255 by decide)
      | (simp only; omega)
      | simp
      | fail
  · rw [hk] at ek
    have e1 : IntKind.i64.wrap ((n_kind : Int).tmod 20) = 11 := by rw [ek]; decide
    have e2 : IntKind.i64.wrap 12 = 12 := by decide
    simp only [Try.f7, Option.getD_some]
    simp (implicitDefEqProofs := false) (decide := true) (maxSteps := 4000000) [ini, g_obegun, obegunC_eq, g_osteps, ostepsC_eq, g_oPut, oPutC_eq, g_rsame1, rsame1C_eq, e1, e2, ev, en, ei, eo]
    intro z1 z2 z3 _ z4
    have z1' : path.size ≤ 255 := by omega
    have z2' : to.size ≤ 255 := by omega
    have z3' : text.size ≤ 255 := by omega
    have z4' : keep.length ≤ 40 := by omega
    clear e1 e2 ek hk ev en ei eo h_kind h_v
    refine one_all ?_ (indep_fast (by decide +kernel))
    constructor
    all_goals first
      | exact z1'
      | exact z2'
      | exact z3'
      | exact z4'
      | exact (show (⟨#[]⟩ : ByteArray).size ≤ 255 by decide)
      | (simp only; omega)
      | simp
      | fail
  · rw [hk] at ek
    have e1 : IntKind.i64.wrap ((n_kind : Int).tmod 20) = 12 := by rw [ek]; decide
    have e2 : IntKind.i64.wrap 13 = 13 := by decide
    simp only [Try.f7, Option.getD_some]
    simp (implicitDefEqProofs := false) (decide := true) (maxSteps := 4000000) [ini, g_obegun, obegunC_eq, g_osteps, ostepsC_eq, g_oPut, oPutC_eq, g_rsame1, rsame1C_eq, e1, e2, ev, en, ei, eo]
    intro z1 z2 z3 _ z4
    have z1' : path.size ≤ 255 := by omega
    have z2' : to.size ≤ 255 := by omega
    have z3' : text.size ≤ 255 := by omega
    have z4' : keep.length ≤ 40 := by omega
    clear e1 e2 ek hk ev en ei eo h_kind h_v
    refine one_all ?_ (indep_fast (by decide +kernel))
    constructor
    all_goals first
      | exact z1'
      | exact z2'
      | exact z3'
      | exact z4'
      | exact (show (⟨#[]⟩ : ByteArray).size ≤ 255 by decide)
      | (simp only; omega)
      | simp
      | fail
  · rw [hk] at ek
    have e1 : IntKind.i64.wrap ((n_kind : Int).tmod 20) = 13 := by rw [ek]; decide
    have e2 : IntKind.i64.wrap 14 = 14 := by decide
    simp only [Try.f7, Option.getD_some]
    simp (implicitDefEqProofs := false) (decide := true) (maxSteps := 4000000) [ini, g_obegun, obegunC_eq, g_osteps, ostepsC_eq, g_oPut, oPutC_eq, g_rsame1, rsame1C_eq, e1, e2, ev, en, ei, eo]
    intro z1 z2 z3 _ z4
    have z1' : path.size ≤ 255 := by omega
    have z2' : to.size ≤ 255 := by omega
    have z3' : text.size ≤ 255 := by omega
    have z4' : keep.length ≤ 40 := by omega
    clear e1 e2 ek hk ev en ei eo h_kind h_v
    refine one_all ?_ (indep_fast (by decide +kernel))
    constructor
    all_goals first
      | exact z1'
      | exact z2'
      | exact z3'
      | exact z4'
      | exact (show (⟨#[]⟩ : ByteArray).size ≤ 255 by decide)
      | (simp only; omega)
      | simp
      | fail
  · rw [hk] at ek
    have e1 : IntKind.i64.wrap ((n_kind : Int).tmod 20) = 14 := by rw [ek]; decide
    have e2 : IntKind.i64.wrap 15 = 15 := by decide
    simp only [Try.f7, Option.getD_some]
    simp (implicitDefEqProofs := false) (decide := true) (maxSteps := 4000000) [ini, g_obegun, obegunC_eq, g_osteps, ostepsC_eq, g_oPut, oPutC_eq, g_rsame1, rsame1C_eq, e1, e2, ev, en, ei, eo]
    intro z1 z2 z3 _ z4
    have z1' : path.size ≤ 255 := by omega
    have z2' : to.size ≤ 255 := by omega
    have z3' : text.size ≤ 255 := by omega
    have z4' : keep.length ≤ 40 := by omega
    clear e1 e2 ek hk ev en ei eo h_kind h_v
    refine one_all ?_ (indep_fast (by decide +kernel))
    constructor
    all_goals first
      | exact z1'
      | exact z2'
      | exact z3'
      | exact z4'
      | exact (show (⟨#[]⟩ : ByteArray).size ≤ 255 by decide)
      | (simp only; omega)
      | simp
      | fail
  · rw [hk] at ek
    have e1 : IntKind.i64.wrap ((n_kind : Int).tmod 20) = 15 := by rw [ek]; decide
    have e2 : IntKind.i64.wrap 16 = 16 := by decide
    simp only [Try.f7, Option.getD_some]
    simp (implicitDefEqProofs := false) (decide := true) (maxSteps := 4000000) [ini, g_obegun, obegunC_eq, g_osteps, ostepsC_eq, g_oPut, oPutC_eq, g_rsame1, rsame1C_eq, e1, e2, ev, en, ei, eo]
    intro z1 z2 z3 _ z4
    have z1' : path.size ≤ 255 := by omega
    have z2' : to.size ≤ 255 := by omega
    have z3' : text.size ≤ 255 := by omega
    have z4' : keep.length ≤ 40 := by omega
    clear e1 e2 ek hk ev en ei eo h_kind h_v
    refine one_all ?_ (indep_fast (by decide +kernel))
    constructor
    all_goals first
      | exact z1'
      | exact z2'
      | exact z3'
      | exact z4'
      | exact (show (⟨#[]⟩ : ByteArray).size ≤ 255 by decide)
      | (simp only; omega)
      | simp
      | fail
  · rw [hk] at ek
    have e1 : IntKind.i64.wrap ((n_kind : Int).tmod 20) = 16 := by rw [ek]; decide
    have e2 : IntKind.i64.wrap 17 = 17 := by decide
    simp only [Try.f7, Option.getD_some]
    simp (implicitDefEqProofs := false) (decide := true) (maxSteps := 4000000) [ini, g_obegun, obegunC_eq, g_osteps, ostepsC_eq, g_oPut, oPutC_eq, g_rsame1, rsame1C_eq, e1, e2, ev, en, ei, eo]
    intro z1 z2 z3 _ z4
    have z1' : path.size ≤ 255 := by omega
    have z2' : to.size ≤ 255 := by omega
    have z3' : text.size ≤ 255 := by omega
    have z4' : keep.length ≤ 40 := by omega
    clear e1 e2 ek hk ev en ei eo h_kind h_v
    refine one_all ?_ (indep_fast (by decide +kernel))
    constructor
    all_goals first
      | exact z1'
      | exact z2'
      | exact z3'
      | exact z4'
      | exact (show (⟨#[]⟩ : ByteArray).size ≤ 255 by decide)
      | (simp only; omega)
      | simp
      | fail
  · rw [hk] at ek
    have e1 : IntKind.i64.wrap ((n_kind : Int).tmod 20) = 17 := by rw [ek]; decide
    have e2 : IntKind.i64.wrap 18 = 18 := by decide
    simp only [Try.f7, Option.getD_some]
    simp (implicitDefEqProofs := false) (decide := true) (maxSteps := 4000000) [ini, g_obegun, obegunC_eq, g_osteps, ostepsC_eq, g_oPut, oPutC_eq, g_rsame1, rsame1C_eq, e1, e2, ev, en, ei, eo]
    intro z1 z2 z3 _ z4
    have z1' : path.size ≤ 255 := by omega
    have z2' : to.size ≤ 255 := by omega
    have z3' : text.size ≤ 255 := by omega
    have z4' : keep.length ≤ 40 := by omega
    clear e1 e2 ek hk ev en ei eo h_kind h_v
    refine one_all ?_ (indep_fast (by decide +kernel))
    constructor
    all_goals first
      | exact z1'
      | exact z2'
      | exact z3'
      | exact z4'
      | exact (show (⟨#[]⟩ : ByteArray).size ≤ 255 by decide)
      | (simp only; omega)
      | simp
      | fail
  · rw [hk] at ek
    have e1 : IntKind.i64.wrap ((n_kind : Int).tmod 20) = 18 := by rw [ek]; decide
    have e2 : IntKind.i64.wrap 19 = 19 := by decide
    simp only [Try.f7, Option.getD_some]
    simp (implicitDefEqProofs := false) (decide := true) (maxSteps := 4000000) [ini, g_obegun, obegunC_eq, g_osteps, ostepsC_eq, g_oPut, oPutC_eq, g_rsame1, rsame1C_eq, e1, e2, ev, en, ei, eo]
    intro z1 z2 z3 _ z4
    have z1' : path.size ≤ 255 := by omega
    have z2' : to.size ≤ 255 := by omega
    have z3' : text.size ≤ 255 := by omega
    have z4' : keep.length ≤ 40 := by omega
    clear e1 e2 ek hk ev en ei eo h_kind h_v
    refine one_all ?_ (indep_fast (by decide +kernel))
    constructor
    all_goals first
      | exact z1'
      | exact z2'
      | exact z3'
      | exact z4'
      | exact (show (⟨#[]⟩ : ByteArray).size ≤ 255 by decide)
      | (simp only; omega)
      | simp
      | fail
  · rw [hk] at ek
    have e1 : IntKind.i64.wrap ((n_kind : Int).tmod 20) = 19 := by rw [ek]; decide
    have e2 : IntKind.i64.wrap 20 = 20 := by decide
    simp only [Try.f7, Option.getD_some]
    simp (implicitDefEqProofs := false) (decide := true) (maxSteps := 4000000) [ini, g_obegun, obegunC_eq, g_osteps, ostepsC_eq, g_oPut, oPutC_eq, g_rsame1, rsame1C_eq, e1, e2, ev, en, ei, eo]
    intro z1 z2 z3 _ z4
    have z1' : path.size ≤ 255 := by omega
    have z2' : to.size ≤ 255 := by omega
    have z3' : text.size ≤ 255 := by omega
    have z4' : keep.length ≤ 40 := by omega
    clear e1 e2 ek hk ev en ei eo h_kind h_v
    refine one_all ?_ (indep_fast (by decide +kernel))
    constructor
    all_goals first
      | exact z1'
      | exact z2'
      | exact z3'
      | exact z4'
      | exact (show (⟨#[]⟩ : ByteArray).size ≤ 255 by decide)
      | (simp only; omega)
      | simp
      | fail
end Go.Proofs.Ytmcemcdjfodchaa
