import Derived.Test.YtjhnbndfepnpmaaSlot4
set_option maxRecDepth 10000
set_option maxHeartbeats 2000000
set_option linter.unusedSimpArgs false
set_option linter.unusedVariables false
set_option pp.deepTerms.threshold 12
namespace Go.Proofs.Ytjhnbndfepnpmaa
open Go.Tm Go.IntWalk
def ΓslotAll : Cons := cons [(6, sbegunC), (7, smayC), (8, rsmayC), (9, sputC), (10, rsputC), (12, stakeC), (13, rstakeC), (14, snewestC), (15, rsnewestC), (11, slotsC)]
theorem ΓslotAll_ok : ConsOK Try.prog ΓslotAll := (consOK_cons sbegun_ok (consOK_cons smay_ok (consOK_cons rsmay_ok (consOK_cons sput_ok (consOK_cons rsput_ok (consOK_cons stake_ok (consOK_cons rstake_ok (consOK_cons snewest_ok (consOK_cons rsnewest_ok (consOK_cons slots_ok consOK_nil))))))))))
theorem slotAll_ex : LawEx tab ΓslotAll Try.f3 [.prod (.int .i64) (.prod (.int .i64) (.prod (.int .i64) (.prod (.int .i64) (.prod (.int .i64) .unit)))), .slice (.int .u16), .str, .int .u8, .int .u8] := by
  intro l h1 h2
  obtain ⟨wild, l1, rfl, e1⟩ := types_cons h1
  obtain ⟨l, l2, rfl, e2⟩ := types_cons e1
  obtain ⟨b, l3, rfl, e3⟩ := types_cons e2
  obtain ⟨at', l4, rfl, e4⟩ := types_cons e3
  obtain ⟨by', l5, rfl, e5⟩ := types_cons e4
  obtain rfl := types_nil e5
  clear h1 e1 e2 e3 e4 e5
  have g_sbegun : ΓslotAll 6 = some sbegunC := rfl
  have g_smay : ΓslotAll 7 = some smayC := rfl
  have g_rsmay : ΓslotAll 8 = some rsmayC := rfl
  have g_sput : ΓslotAll 9 = some sputC := rfl
  have g_rsput : ΓslotAll 10 = some rsputC := rfl
  have g_stake : ΓslotAll 12 = some stakeC := rfl
  have g_rstake : ΓslotAll 13 = some rstakeC := rfl
  have g_snewest : ΓslotAll 14 = some snewestC := rfl
  have g_rsnewest : ΓslotAll 15 = some rsnewestC := rfl
  have g_slots : ΓslotAll 11 = some slotsC := rfl
  obtain ⟨n_at', rfl, h_at'⟩ := okv_u8 (h2 ⟨_, at'⟩ (by simp))
  obtain ⟨n_by', rfl, h_by'⟩ := okv_u8 (h2 ⟨_, by'⟩ (by simp))
  clear h2
  simp only [Try.f3, Option.getD_some]
  simp (implicitDefEqProofs := false) (decide := true) (maxSteps := 4000000) [ini, g_sbegun, sbegunC_eq, g_smay, smayC_eq, g_rsmay, rsmayC_eq, g_sput, sputC_eq, g_rsput, rsputC_eq, g_stake, stakeC_eq, g_rstake, rstakeC_eq, g_snewest, snewestC_eq, g_rsnewest, rsnewestC_eq, g_slots, slotsC_eq]
  intro m _ hl hb m1
  have hsl : (slotsL l).length = l.length / 5 := by simp [slotsL]
  have w1 : IntKind.i64.wrap (n_at' : Int) = (n_at' : Int) := w_nat rfl (by omega)
  have w2 : IntKind.i64.wrap (1 + (n_at' : Int)) = ((1 + n_at' : Nat) : Int) := w_nat (by omega) (by omega)
  rw [w1, w2]
  obtain ⟨e, he⟩ : ∃ e : Sl, (((1 + n_at' : Nat) : Int), 5, 9, 1, 3, ()) = e := ⟨_, rfl⟩
  have hm : maySl e = true := by rw [← he]; exact maySl_iff.2 ⟨⟨by simp only; omega, by simp only; omega⟩, by simp only; omega, by simp only; omega, by simp only; omega, by simp only; omega⟩
  rw [he]
  refine ⟨by omega, by omega, fun m2 => ?_⟩
  have hz : (bytesOf (putSl e)).length = 64 := by rw [bytesOf_len, putSl_yes hm, putB_size (blkOf_may hm)]
  have hz2 : (putSl e).size = 64 := by rw [← bytesOf_len, hz]
  have t1 : (n_at' : Int).tmod 64 = ((n_at' % 64 : Nat) : Int) := tmod_nat n_at' 64
  have hne : ¬ bytesOf (putSl e) = [] := fun h => by rw [h] at hz; cases hz
  have t2 : (n_at' : Int).tmod ((bytesOf (putSl e)).length : Int) = ((n_at' % 64 : Nat) : Int) := by rw [hz]; exact t1
  rw [t2, Int.toNat_natCast]
  refine ⟨by rw [hz2]; decide, fun _ => ⟨hne, ⟨by omega, by rw [hz]; omega⟩, by rw [hz]; omega, ⟨by omega, by rw [hz]; omega⟩, by rw [hz]; omega, fun m3 => ⟨by omega, ?_⟩⟩⟩
  generalize strOf _ = z
  obtain ⟨L, hL⟩ : ∃ L, slotsL l ++ [b] ++ [z] = L := ⟨_, rfl⟩
  refine ex_loopU (σ := Nat) [10, 13, 14, 15, 16, 17, 71, 72, 73, 74, 75, 76, 77, 78, 79, 80, 81, 82, 83, 84, 85, 86, 87, 88, 89, 90, 91, 92, 93, 94, 95, 96, 97, 98, 99, 100] (fun a => [(13, .val (.int .i64) (a : Int))]) (fun a => a ≤ l.length / 5 + 2) (fun a => l.length / 5 + 2 - a) 0 (by simp) (hc rfl hn) ?_
  rintro j i hi
  simp (implicitDefEqProofs := false) (decide := true) (maxSteps := 4000000) [ini, g_sbegun, sbegunC_eq, g_smay, smayC_eq, g_rsmay, rsmayC_eq, g_sput, sputC_eq, g_rsput, rsputC_eq, g_stake, stakeC_eq, g_rstake, rstakeC_eq, g_snewest, snewestC_eq, g_rsnewest, rsnewestC_eq, g_slots, slotsC_eq]
  intro _
  refine br_dec (fun hlt => ⟨hlt, by omega, hlt, by omega, same_refl (t := SlT) (by decide) _, i + 1, by omega, by omega, w_nat rfl (by omega)⟩) fun hge => same_refl (t := SlT) (by decide) _
end Go.Proofs.Ytjhnbndfepnpmaa
