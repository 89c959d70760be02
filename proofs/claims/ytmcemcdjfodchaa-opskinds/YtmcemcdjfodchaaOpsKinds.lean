import Derived.Test.YtmcemcdjfodchaaOps10
set_option maxRecDepth 10000
set_option maxHeartbeats 4000000
set_option linter.unusedSimpArgs false
set_option linter.unusedVariables false
set_option pp.deepTerms.threshold 40
namespace Go.Proofs.Ytmcemcdjfodchaa
open Go.Tm Go.IntWalk
attribute [-instance] Go.Tm.instDecidableIndep
theorem stepsD_mod {x y : Int} {l : List Int} (h : x.tmod 21 = y.tmod 21) : stepsD (x :: l) = stepsD (y :: l) := by rw [stepsD_cons, stepsD_cons, h]
def ΓopsKinds : Cons := cons [(9, obegunC), (13, ostepsC), (12, rsamesC)]
theorem ΓopsKinds_ok : ConsOK Try.prog ΓopsKinds := (consOK_cons obegun_ok (consOK_cons osteps_ok (consOK_cons rsames_ok consOK_nil)))
theorem opsKinds_ex : LawEx tab ΓopsKinds Try.f8 [.slice (.int .u8), .int .u8] := by
  intro l h1 h2
  obtain ⟨b, l1, rfl, e1⟩ := types_cons h1
  obtain ⟨n, l2, rfl, e2⟩ := types_cons e1
  obtain rfl := types_nil e2
  clear h1 e1 e2
  have g_obegun : ΓopsKinds 9 = some obegunC := rfl
  have g_osteps : ΓopsKinds 13 = some ostepsC := rfl
  have g_rsames : ΓopsKinds 12 = some rsamesC := rfl
  have b_b : isB b := okv_bytes (h2 ⟨_, b⟩ (by simp))
  obtain ⟨n_n, rfl, h_n⟩ := okv_u8 (h2 ⟨_, n⟩ (by simp))
  clear h2
  simp only [Try.f8, Option.getD_some]
  simp (implicitDefEqProofs := false) (decide := true) (maxSteps := 4000000) [ini, g_obegun, obegunC_eq, g_osteps, ostepsC_eq, g_rsames, rsamesC_eq]
  intro _ hl _ hne
  cases b with
  | nil => exact absurd rfl hne
  | cons x l =>
    have hx := b_b x (List.mem_cons_self ..)
    have hlb : isB l := fun y hy => b_b y (List.mem_cons_of_mem _ hy)
    obtain ⟨u, rfl⟩ := Int.eq_ofNat_of_zero_le hx.1
    have e1 : (u : Int).tmod 21 = ((u % 21 : Nat) : Int) := rfl
    have e2 : (n_n : Int).tmod 11 = ((n_n % 11 : Nat) : Int) := rfl
    have e3 : IntKind.u8.wrap (((u % 21 : Nat) : Int) + IntKind.u8.wrap (21 * ((n_n % 11 : Nat) : Int))) = ((u % 21 + 21 * (n_n % 11) : Nat) : Int) := by
      rw [IntKind.wrap_u8, IntKind.wrap_u8]
      omega
    have e4 : ((u % 21 + 21 * (n_n % 11) : Nat) : Int).tmod 21 = (((u % 21 + 21 * (n_n % 11)) % 21 : Nat) : Int) := rfl
    have e5 : ((u % 21 : Nat) : Int).tmod 21 = ((u % 21 % 21 : Nat) : Int) := rfl
    simp only [List.length_cons] at hl ⊢
    simp only [List.set_cons_zero, List.getElem?_cons_zero, Option.getD_some, e1, e2, e3]
    have b1 : isB (((u % 21 + 21 * (n_n % 11) : Nat) : Int) :: l) := fun y hy => by
      rcases List.mem_cons.1 hy with e | hy
      · omega
      · exact hlb y hy
    have b2 : isB (((u % 21 : Nat) : Int) :: l) := fun y hy => by
      rcases List.mem_cons.1 hy with e | hy
      · omega
      · exact hlb y hy
    have b3 : isB (0 :: 21 :: 42 :: (u : Int) :: l) := fun y hy => by
      rcases List.mem_cons.1 hy with e | hy
      · omega
      rcases List.mem_cons.1 hy with e | hy
      · omega
      rcases List.mem_cons.1 hy with e | hy
      · omega
      · exact b_b y hy
    refine ⟨by omega, by omega, by omega, by omega, ⟨b1, by omega⟩, ⟨b2, by omega⟩, sameSs_yes (stepsD_mod (by rw [e4, e5]; omega)), by omega, ⟨b3, by omega⟩, ⟨b_b, by omega⟩, sameSs_yes ?_⟩
    rw [stepsD_cons, if_pos (by decide), stepsD_cons, if_pos (by decide), stepsD_cons, if_pos (by decide)]
end Go.Proofs.Ytmcemcdjfodchaa
