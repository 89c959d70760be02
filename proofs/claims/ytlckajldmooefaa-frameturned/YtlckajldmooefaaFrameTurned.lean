import Derived.Test.YtlckajldmooefaaFrame7
import Derived.Test.YtlckajldmooefaaFrameT
import Derived.Test.YtlckajldmooefaaTurn
set_option maxRecDepth 10000
set_option maxHeartbeats 2000000
set_option linter.unusedSimpArgs false
set_option linter.unusedVariables false
set_option pp.deepTerms.threshold 12
namespace Go.Proofs.Ytlckajldmooefaa
open Go.Tm Go.IntWalk Go.Crc
def Γturned : Cons := cons [(8, fbegunC), (9, pmadeC), (10, pcmdC), (11, fputC), (15, ftakeC)]
theorem Γturned_ok : ConsOK Try.prog Γturned := consOK_cons fbegun_ok (consOK_cons pmade_ok (consOK_cons pcmd_ok (consOK_cons fput_ok (consOK_cons ftake_ok consOK_nil))))
theorem tw_take (b : List Int) {k : Nat} (hk : 2 ≤ k) (v : Int) (i : Nat) : (tw b k v i).take 2 = b.take 2 := by
  induction i with
  | zero => rfl
  | succ i ih =>
    simp only [tw]
    rw [List.take_set, ih, List.set_eq_of_length_le (by rw [List.length_take]; omega)]
theorem frameTurned_ex : LawEx tab Γturned Try.f5 [.slice (.int .u8), .int .u16, .int .u16, .int .u32] := by
  intro l h1 h2
  obtain ⟨picks, l1, rfl, e1⟩ := types_cons h1
  obtain ⟨seq, l2, rfl, e2⟩ := types_cons e1
  obtain ⟨at', l3, rfl, e3⟩ := types_cons e2
  obtain ⟨by', l4, rfl, e4⟩ := types_cons e3
  obtain rfl := types_nil e4
  clear h1 e1 e2 e3 e4
  have g1 : Γturned 8 = some fbegunC := rfl
  have g2 : Γturned 9 = some pmadeC := rfl
  have g3 : Γturned 10 = some pcmdC := rfl
  have g4 : Γturned 11 = some fputC := rfl
  have g5 : Γturned 15 = some ftakeC := rfl
  have bp : isB picks := okv_bytes (h2 ⟨_, picks⟩ (by simp))
  obtain ⟨sn, rfl, hs⟩ := okv_u16 (h2 ⟨_, seq⟩ (by simp))
  obtain ⟨an, rfl, ha⟩ := okv_u16 (h2 ⟨_, at'⟩ (by simp))
  obtain ⟨e, rfl, he⟩ := okv_u32 (h2 ⟨_, by'⟩ (by simp))
  clear h2
  have w1 : IntKind.i64.wrap (sn : Int) = (sn : Int) := w_nat rfl (by omega)
  have w2 : IntKind.i64.wrap (an : Int) = (an : Int) := w_nat rfl (by omega)
  by_cases hp : picks.length ≤ 12
  case neg =>
    simp only [Try.f5, Option.getD_some]
    simp (implicitDefEqProofs := false) (decide := true) [ini, g1, g2, g3, g4, g5, fbegunC_eq, pmadeC_eq, pcmdC_eq, fputC_eq, ftakeC_eq, w1, w2]
    intro _ h
    exact absurd h (by omega)
  have hp0 : okP (picks, 0, ()) := ⟨bp, Int.le_refl 0, by simp only; omega, by simp only; omega⟩
  have hm := cmdP_may hp0
  obtain ⟨c, hcc⟩ : ∃ c, (cmdP (picks, 0, ())).1 = c := ⟨_, rfl⟩
  rw [hcc] at hm
  have hk : okF sn c = true := ok_of hm (by omega) (by omega)
  have hput : putF sn c = frameS sn c := if_pos hk
  have hlen := frame_len (seq := sn) (may_fine hm)
  have hfine := may_fine hm
  obtain ⟨f1, f2, f3, f4, f5, f6, f7, f8, f9⟩ := hfine.out
  have hB := isB_frameS sn c
  have hT := fun b => @takeF_turned sn c hk b
  obtain ⟨F, hF⟩ : ∃ F, frameS sn c = F := ⟨_, rfl⟩
  rw [hF] at hput hB hlen hT
  have hl26 : 26 ≤ F.length := by omega
  have hl200 : F.length ≤ 800 := by omega
  have w3 : IntKind.i64.wrap ((F.length : Int) - 6) = ((F.length - 6 : Nat) : Int) := by rw [i64_in _ (by omega)]; omega
  have t1 : Int.tmod (an : Int) ((F.length - 6 : Nat) : Int) = ((an % (F.length - 6) : Nat) : Int) := tmod_nat an (F.length - 6)
  have t2 : Int.tmod (an : Int) 8 = ((an % 8 : Nat) : Int) := tmod_nat an 8
  have hq := Nat.mod_lt an (show 0 < F.length - 6 by omega)
  obtain ⟨k, hk2⟩ : ∃ k, k = an % (F.length - 6) + 2 := ⟨_, rfl⟩
  have w4 : IntKind.i64.wrap (2 + ((an % (F.length - 6) : Nat) : Int)) = (k : Int) := w_nat (by omega) (by omega)
  simp only [Try.f5, Option.getD_some]
  simp (implicitDefEqProofs := false) (decide := true) [ini, g1, g2, g3, g4, g5, fbegunC_eq, pmadeC_eq, pcmdC_eq, fputC_eq, ftakeC_eq, w1, w2, hp0, hk, hput, hcc, hB, w3, t1, t2, w4]
  intro _ _ h0 m _
  refine ⟨by omega, fun m1 => ⟨by omega, fun _ => ⟨by omega, by omega, ?_⟩⟩⟩
  refine ex_loopU (σ := Nat × Nat × Int) [11, 13, 14, 58, 59, 60, 61, 62, 63, 64, 65, 66, 67, 68, 69, 70, 71, 72, 73, 74, 75, 76, 77, 78, 79, 80, 81, 82] (fun a => [(14, .val (.int .i64) (a.1 : Int)), (13, .val (.int .u64) a.2.2), (11, .own a.2.1 (.int .u8) (tw F k a.2.2 a.1))])
    (fun a => a.1 ≤ 5 ∧ a.2.2 = IntKind.u64.wrap (IntKind.u64.wrap (e : Int) * 2 ^ (an % 8))) (fun a => 5 - a.1) (0, _, _) ?_ (hc rfl (hc rfl (hc rfl hn))) ?_
  · refine ⟨by simp, ?_⟩
    show IntKind.u64.wrap (IntKind.u64.wrap (e : Int) * 2 ^ min ((an % 8 : Nat) : Int).toNat 64) = _
    rw [Int.toNat_natCast, Nat.min_eq_left (by omega)]
  rintro j ⟨i, q, v⟩ ⟨hi, hv⟩
  simp only at hi hv
  have htl : (tw F k v i).length = F.length := tw_len F k v i
  simp (implicitDefEqProofs := false) (decide := true) [ini, g5, ftakeC_eq, w1, htl]
  have hend : i = 5 → ¬(strOf (tw F k v i)).toList = (strOf F).toList → isB (tw F k v i) ∧ (takeF (tw F k v i) sn).2.2 = 9 := by
    intro h5 _
    subst h5
    have hv2 : v = ((2 ^ (an % 8) * e : Nat) : Int) := by
      have hn8 : an % 8 < 8 := Nat.mod_lt _ (by decide)
      have h2 : 2 ^ (an % 8) ≤ 2 ^ 7 := Nat.pow_le_pow_right (by decide) (by omega)
      have h3 : 2 ^ (an % 8) * e ≤ 2 ^ 7 * e := Nat.mul_le_mul_right _ h2
      have h4 : IntKind.u64.wrap (e : Int) = (e : Int) := by rw [IntKind.wrap_u64]; omega
      have h5 : (e : Int) * 2 ^ (an % 8) = ((2 ^ (an % 8) * e : Nat) : Int) := by rw [Nat.mul_comm]; simp
      rw [hv, h4, h5, IntKind.wrap_u64]
      omega
    obtain ⟨t1, t2⟩ := tw_nat (nats_lt hB) k (2 ^ (an % 8) * e) 5
    have ht : tw F k v 5 = ints (twN (nats F) k (2 ^ (an % 8) * e) 5) := by rw [hv2, ← t1, ints_nats hB]
    have hb : isB (tw F k v 5) := by rw [ht]; exact isB_ints t2
    refine ⟨hb, ?_⟩
    rw [hT _ hb htl (tw_take F (by omega) v 5)]
    rw [ht, nats_ints]
    exact twN_sum (by rw [nats_length]; omega) he h0 (Nat.mod_lt _ (by decide))
  have w4' : IntKind.i64.wrap (2 + (an : Int) % ((F.length - 6 : Nat) : Int)) = (k : Int) := w_nat (n := k) (by rw [hk2]; omega) (by omega)
  have w5 : IntKind.i64.wrap ((k : Int) + (i : Int)) = ((k + i : Nat) : Int) := w_nat rfl (by omega)
  have w6 : IntKind.i64.wrap (8 * (i : Int)) = ((8 * i : Nat) : Int) := w_nat (by simp) (by omega)
  rw [w4', w5, w6]
  refine br_dec (fun hlt _ => br_dec (fun hlt2 => ?_) fun h => hend (by omega)) (fun hge => hend (by omega))
  simp only [Int.toNat_natCast]
  refine ⟨⟨by omega, by omega⟩, by omega, by omega, ⟨by omega, by omega⟩, by omega, i + 1, q, v, ⟨by omega, hv⟩, by omega, by rw [i64_in _ (by omega)]; rfl, rfl, rfl, ?_⟩
  simp only [tw]
  rw [Nat.min_eq_left (show 8 * i ≤ IntKind.u64.bits by show 8 * i ≤ 64; omega), List.getD_eq_getElem?_getD]
end Go.Proofs.Ytlckajldmooefaa
