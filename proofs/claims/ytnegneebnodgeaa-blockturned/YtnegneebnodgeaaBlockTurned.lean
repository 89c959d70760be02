import Derived.Test.YtnegneebnodgeaaBlock3
set_option maxRecDepth 10000
set_option maxHeartbeats 2000000
set_option linter.unusedSimpArgs false
set_option linter.unusedVariables false
set_option pp.deepTerms.threshold 12
namespace Go.Proofs.Ytnegneebnodgeaa
open Go.Tm Go.IntWalk
def ΓblockTurned : Cons := cons [(7, bbegunC), (8, pmadeC), (9, pblockC), (12, bputC), (14, btakeC)]
theorem ΓblockTurned_ok : ConsOK Try.prog ΓblockTurned := (consOK_cons bbegun_ok (consOK_cons pmade_ok (consOK_cons pblock_ok (consOK_cons bput_ok (consOK_cons btake_ok consOK_nil)))))
theorem blockTurned_ex : LawEx tab ΓblockTurned Try.f6 [.slice (.int .u8), .int .u8, .int .u8] := by
  intro l h1 h2
  obtain ⟨picks, l1, rfl, e1⟩ := types_cons h1
  obtain ⟨at', l2, rfl, e2⟩ := types_cons e1
  obtain ⟨by', l3, rfl, e3⟩ := types_cons e2
  obtain rfl := types_nil e3
  clear h1 e1 e2 e3
  have g_bbegun : ΓblockTurned 7 = some bbegunC := rfl
  have g_pmade : ΓblockTurned 8 = some pmadeC := rfl
  have g_pblock : ΓblockTurned 9 = some pblockC := rfl
  have g_bput : ΓblockTurned 12 = some bputC := rfl
  have g_btake : ΓblockTurned 14 = some btakeC := rfl
  have b_picks : isB picks := okv_bytes (h2 ⟨_, picks⟩ (by simp))
  obtain ⟨n_at', rfl, h_at'⟩ := okv_u8 (h2 ⟨_, at'⟩ (by simp))
  obtain ⟨n_by', rfl, h_by'⟩ := okv_u8 (h2 ⟨_, by'⟩ (by simp))
  clear h2
  simp only [Try.f6, Option.getD_some]
  simp (implicitDefEqProofs := false) (decide := true) (maxSteps := 4000000) [ini, g_bbegun, bbegunC_eq, g_pmade, pmadeC_eq, g_pblock, pblockC_eq, g_bput, bputC_eq, g_btake, btakeC_eq]
  intro _ hl hby
  have hp0 : okP (picks, 0, ()) := ⟨b_picks, Int.le_refl 0, by simp only; omega, by simp only; omega⟩
  have hm := blockP_may hp0
  obtain ⟨e, he⟩ : ∃ e : Blk, (blockP (picks, 0, ())).1 = e := ⟨_, rfl⟩
  rw [he] at hm ⊢
  have a5 := (mayB_iff.1 hm).2.2.2.2
  have z := putB_size hm
  have w1 : IntKind.i64.wrap (n_at' : Int) = (n_at' : Int) := w_nat rfl (by omega)
  have t1 : (n_at' : Int).tmod 64 = ((n_at' % 64 : Nat) : Int) := tmod_nat n_at' 64
  have w2 : IntKind.i64.wrap (6 + (e.2.2.1.size : Int)) = ((6 + e.2.2.1.size : Nat) : Int) := w_nat (by omega) (by omega)
  have w3 : IntKind.i64.wrap (64 - ((6 + e.2.2.1.size : Nat) : Int)) = ((58 - e.2.2.1.size : Nat) : Int) := w_nat (by omega) (by omega)
  have t2 : (n_at' : Int).tmod ((58 - e.2.2.1.size : Nat) : Int) = ((n_at' % (58 - e.2.2.1.size) : Nat) : Int) := tmod_nat _ _
  have hq := Nat.mod_lt n_at' (show 0 < 58 - e.2.2.1.size by omega)
  have w4 : IntKind.i64.wrap (((6 + e.2.2.1.size : Nat) : Int) + ((n_at' % (58 - e.2.2.1.size) : Nat) : Int)) = ((6 + e.2.2.1.size + n_at' % (58 - e.2.2.1.size) : Nat) : Int) := w_nat (by omega) (by omega)
  rw [w1, t1, w2, w3, t2, w4]
  have hb : bytesOf (putB e) = fullL e := by rw [putB_yes hm, bytesOf_strOf (isB_fullL (by omega))]
  have hlf := fullL_len a5
  have hlb := blkL_len (e := e) (by omega)
  have hx : Tm.bits .xor .u8 (((0 : Nat) : Int)) (n_by' : Int) = ((0 ^^^ n_by' : Nat) : Int) := xor_u8 (by decide) h_by'
  rw [Nat.zero_xor] at hx
  obtain ⟨k, hk⟩ : ∃ k, 6 + e.2.2.1.size + n_at' % (58 - e.2.2.1.size) = k := ⟨_, rfl⟩
  have h2 : (fullL e)[k]? = some 0 := by
    rw [fullL, List.getElem?_append_right (by omega), List.getElem?_replicate, if_pos (by omega)]
  rw [hb, hk, Int.toNat_natCast, Int.toNat_natCast, h2, Option.getD_some, hlf, takeB_put hm]
  have z2 : ((putB e).extract 0 (n_at' % 64)).size ≠ 64 := by rw [ByteArray.size_extract, z]; omega
  have z3 : (putB e ++ ⟨#[120]⟩).size ≠ 64 := by rw [ByteArray.size_append, z]; decide
  have t3 := takeB_turned hm (k := k) (v := (n_by' : Int)) (by omega) (by omega) (by omega) (by omega)
  rw [takeB_size z2, takeB_size z3]
  refine ⟨hp0, by omega, ⟨by omega, by omega⟩, by rw [z]; decide, by omega, by omega, ⟨by omega, by omega⟩, by omega, ⟨by omega, by omega⟩, by omega, rfl, rfl, ?_, rfl, same_refl (t := BlkT) (by decide) _⟩
  show (takeB (strOf ((fullL e).set k (Tm.bits .xor .u8 (((0 : Nat) : Int)) (n_by' : Int))))).2 = false
  rw [hx, t3]
end Go.Proofs.Ytnegneebnodgeaa
