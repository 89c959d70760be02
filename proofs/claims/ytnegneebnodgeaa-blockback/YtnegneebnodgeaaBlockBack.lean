import Derived.Test.YtnegneebnodgeaaBlock3
set_option maxRecDepth 10000
set_option maxHeartbeats 2000000
set_option linter.unusedSimpArgs false
set_option linter.unusedVariables false
set_option pp.deepTerms.threshold 12
namespace Go.Proofs.Ytnegneebnodgeaa
open Go.Tm Go.IntWalk
def ΓblockBack : Cons := cons [(7, bbegunC), (12, bputC), (14, btakeC)]
theorem ΓblockBack_ok : ConsOK Try.prog ΓblockBack := (consOK_cons bbegun_ok (consOK_cons bput_ok (consOK_cons btake_ok consOK_nil)))
theorem blockBack_ex : LawEx tab ΓblockBack Try.f4 [.int .u8, .int .u8, .int .u16, .int .u16, .str, .str] := by
  intro l h1 h2
  obtain ⟨k1, l1, rfl, e1⟩ := types_cons h1
  obtain ⟨k2, l2, rfl, e2⟩ := types_cons e1
  obtain ⟨n1, l3, rfl, e3⟩ := types_cons e2
  obtain ⟨n2, l4, rfl, e4⟩ := types_cons e3
  obtain ⟨s1, l5, rfl, e5⟩ := types_cons e4
  obtain ⟨s2, l6, rfl, e6⟩ := types_cons e5
  obtain rfl := types_nil e6
  clear h1 e1 e2 e3 e4 e5 e6
  have g_bbegun : ΓblockBack 7 = some bbegunC := rfl
  have g_bput : ΓblockBack 12 = some bputC := rfl
  have g_btake : ΓblockBack 14 = some btakeC := rfl
  obtain ⟨n_k1, rfl, h_k1⟩ := okv_u8 (h2 ⟨_, k1⟩ (by simp))
  obtain ⟨n_k2, rfl, h_k2⟩ := okv_u8 (h2 ⟨_, k2⟩ (by simp))
  obtain ⟨n_n1, rfl, h_n1⟩ := okv_u16 (h2 ⟨_, n1⟩ (by simp))
  obtain ⟨n_n2, rfl, h_n2⟩ := okv_u16 (h2 ⟨_, n2⟩ (by simp))
  clear h2
  simp only [Try.f4, Option.getD_some]
  simp (implicitDefEqProofs := false) (decide := true) (maxSteps := 4000000) [ini, g_bbegun, bbegunC_eq, g_bput, bputC_eq, g_btake, btakeC_eq]
  intro hs1 hs2
  have w1 : IntKind.i64.wrap (1 + IntKind.i64.wrap ((n_k1 : Int).tmod 5)) = ((1 + n_k1 % 5 : Nat) : Int) := by
    have : (n_k1 : Int).tmod 5 = ((n_k1 % 5 : Nat) : Int) := tmod_nat n_k1 5
    rw [this, w_nat rfl (by omega), w_nat (n := 1 + n_k1 % 5) (by omega) (by omega)]
  have w2 : IntKind.i64.wrap (1 + IntKind.i64.wrap ((n_k2 : Int).tmod 5)) = ((1 + n_k2 % 5 : Nat) : Int) := by
    have : (n_k2 : Int).tmod 5 = ((n_k2 % 5 : Nat) : Int) := tmod_nat n_k2 5
    rw [this, w_nat rfl (by omega), w_nat (n := 1 + n_k2 % 5) (by omega) (by omega)]
  have w3 : IntKind.i64.wrap (n_n1 : Int) = (n_n1 : Int) := w_nat rfl (by omega)
  have w4 : IntKind.i64.wrap (n_n2 : Int) = (n_n2 : Int) := w_nat rfl (by omega)
  rw [w1, w2, w3, w4]
  have m1 : mayB (((1 + n_k1 % 5 : Nat) : Int), (n_n1 : Int), s1, ()) = true := mayB_iff.2 ⟨by simp only; omega, by simp only; omega, by simp only; omega, by simp only; omega, by simp only; omega⟩
  have m2 : mayB (((1 + n_k2 % 5 : Nat) : Int), (n_n2 : Int), s2, ()) = true := mayB_iff.2 ⟨by simp only; omega, by simp only; omega, by simp only; omega, by simp only; omega, by simp only; omega⟩
  obtain ⟨e1, he1⟩ : ∃ e : Blk, (((1 + n_k1 % 5 : Nat) : Int), (n_n1 : Int), s1, ()) = e := ⟨_, rfl⟩
  obtain ⟨e2, he2⟩ : ∃ e : Blk, (((1 + n_k2 % 5 : Nat) : Int), (n_n2 : Int), s2, ()) = e := ⟨_, rfl⟩
  rw [he1] at m1 ⊢
  rw [he2] at m2 ⊢
  have z := putB_size m1
  rw [takeB_put m1, takeB_put m2]
  exact ⟨rfl, same_refl (t := BlkT) (by decide) _, rfl, same_refl (t := BlkT) (by decide) _, put_same m1 m2, by omega⟩
end Go.Proofs.Ytnegneebnodgeaa
