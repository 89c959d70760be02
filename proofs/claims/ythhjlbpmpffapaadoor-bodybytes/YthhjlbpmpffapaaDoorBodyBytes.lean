import Derived.Test.YthhjlbpmpffapaaDoorBody7
import Derived.Test.YthhjlbpmpffapaaDoorPBytes
set_option maxRecDepth 100000
set_option maxHeartbeats 4000000
set_option linter.unusedSimpArgs false
set_option linter.unusedVariables false
set_option pp.deepTerms.threshold 20
namespace Go.Proofs.YthhjlbpmpffapaaDoor
open Go.Tm Go.IntWalk
theorem bB_t : (linkT (makeT newT ⟨#[47, 97]⟩ 1 6 0 false).1 ⟨#[47, 97]⟩ ⟨#[47, 98]⟩ false).1 = bN no := by decide +kernel
theorem bytes_at0 (s : ByteArray) (i : Nat) : (bytesOf s).getD i 0 = byteAt s i := by
  unfold bytesOf byteAt
  rw [List.getD_eq_getElem?_getD, List.getD_eq_getElem?_getD, List.getElem?_map]
  cases s.data.toList[i]? <;> rfl
def ΓbodyBytes : Cons := cons [(5, ybegunC), (7, rnewTC), (6, rmakeTC), (8, rlinkTC), (9, bwriteC), (11, breadC), (12, bcutC), (10, rsameT6C)]
theorem ΓbodyBytes_ok : ConsOK Tryd.prog ΓbodyBytes := (consOK_cons ybegun_ok (consOK_cons rnewT_ok (consOK_cons rmakeT_ok (consOK_cons rlinkT_ok (consOK_cons bwrite_ok (consOK_cons bread_ok (consOK_cons bcut_ok (consOK_cons rsameT6_ok consOK_nil))))))))
theorem bodyBytes_ex : LawEx tab ΓbodyBytes Tryd.f3 [.str, .str, .int .u8, .int .u8] := by
  intro l h1 h2
  obtain ⟨was, l1, rfl, e1⟩ := types_cons h1
  obtain ⟨text, l2, rfl, e2⟩ := types_cons e1
  obtain ⟨off0, l3, rfl, e3⟩ := types_cons e2
  obtain ⟨size0, l4, rfl, e4⟩ := types_cons e3
  obtain rfl := types_nil e4
  clear h1 e1 e2 e3 e4
  have g_ybegun : ΓbodyBytes 5 = some ybegunC := rfl
  have g_rnewT : ΓbodyBytes 7 = some rnewTC := rfl
  have g_rmakeT : ΓbodyBytes 6 = some rmakeTC := rfl
  have g_rlinkT : ΓbodyBytes 8 = some rlinkTC := rfl
  have g_bwrite : ΓbodyBytes 9 = some bwriteC := rfl
  have g_bread : ΓbodyBytes 11 = some breadC := rfl
  have g_bcut : ΓbodyBytes 12 = some bcutC := rfl
  have g_rsameT6 : ΓbodyBytes 10 = some rsameT6C := rfl
  obtain ⟨n_off0, rfl, h_off0⟩ := okv_u8 (h2 ⟨_, off0⟩ (by simp))
  obtain ⟨n_size0, rfl, h_size0⟩ := okv_u8 (h2 ⟨_, size0⟩ (by simp))
  clear h2
  simp only [Tryd.f3, Option.getD_some]
  simp (implicitDefEqProofs := false) (decide := true) (maxSteps := 4000000) [ini, g_ybegun, ybegunC_eq, g_rnewT, rnewTC_eq, g_rmakeT, rmakeTC_eq, g_rlinkT, rlinkTC_eq, g_bwrite, bwriteC_eq, g_bread, breadC_eq, g_bcut, bcutC_eq, g_rsameT6, rsameT6C_eq, bB_t]
  intro hw0 ht0
  have hw0 : ByteArray.size was ≤ 120 := Int.ofNat_le.1 hw0
  have ht0 : ByteArray.size text ≤ 120 := Int.ofNat_le.1 ht0
  revert was text
  intro (was : ByteArray) (text : ByteArray) _ _ hw0 ht0
  have hA : writeT (bN no) ⟨#[47, 97]⟩ 0 was false = (bN was, 0) := by
    have h := bN_write no ⟨#[47, 97]⟩ (.inl rfl) 0 was
    rw [if_pos (by omega), write_no] at h
    exact h
  rw [hA]
  have w1 : IntKind.i64.wrap (n_off0 : Int) = (n_off0 : Int) := w_nat rfl (by omega)
  have w2 : Int.tmod (n_off0 : Int) 121 = ((n_off0 % 121 : Nat) : Int) := rfl
  have hlt := Nat.mod_lt n_off0 (show 0 < 121 by decide)
  rw [w1, w2]
  generalize n_off0 % 121 = at' at hlt ⊢
  have w3 : IntKind.i64.wrap ((at' : Int) + (ByteArray.size text : Int)) = ((at' + text.size : Nat) : Int) := w_nat (by omega) (by omega)
  have hB := bN_write was ⟨#[47, 98]⟩ (.inr rfl) at' text
  rw [w3, hB]
  refine ⟨by omega, ⟨bN_fit (by omega), bN_len _, by omega⟩, rfl, ?_⟩
  by_cases hfit : at' + text.size ≤ 120
  case neg =>
    rw [if_neg hfit]
    refine ⟨(decide_eq_false (by omega)).symm, br_intro (fun _ => ⟨rfl, rfl⟩) fun h => by cases h⟩
  rw [if_pos hfit]
  refine ⟨(decide_eq_true (by omega)).symm, br_intro (fun h => by cases h) fun _ m => ⟨by omega, ?_⟩⟩
  have huf : (if text.size = 0 then was else writeB was at' text).size ≤ 4000000000 := by
    split
    · omega
    · have e := congrArg List.length (bytes_writeB was text at')
      rw [bytesOf_len, List.length_append, List.length_append, List.length_take, List.length_append, List.length_replicate, List.length_drop, bytesOf_len, bytesOf_len] at e
      omega
  have hspec := fun u W hu h => @spec_str was text at' u W hu h
  generalize (if text.size = 0 then was else writeB was at' text) = uu at huf hspec ⊢
  have hB : (bytesOf was).length = was.size := bytesOf_len was
  have hT : (bytesOf text).length = text.size := bytesOf_len text
  refine ex_loopU (σ := Nat × Nat × List Int) [15, 16, 84, 85, 86, 87, 88, 89, 90, 91, 92, 93, 94, 95, 96, 97, 98, 99, 100, 101, 102, 103, 104, 105, 106] (fun a => [(16, .val (.int .i64) (a.1 : Int)), (15, .own a.2.1 (.int .u8) a.2.2)])
    (fun a => a.1 ≤ text.size ∧ specW (bytesOf was) (bytesOf text) at' a.1 (if a.1 = 0 then was.size else max was.size (at' + a.1)) a.2.2) (fun a => text.size - a.1) (0, _, bytesOf was) ⟨Nat.zero_le _, Nat.le_refl _, fun h => absurd h (Nat.lt_irrefl 0), by rw [if_pos rfl]; exact Nat.le_of_eq hB, fun k _ => by rw [if_neg (by simp only; omega)]⟩ (hc rfl (hc rfl hn)) ?_
  rintro j ⟨i, q, W⟩ ⟨hi, hs⟩
  simp only at hi hs
  simp (implicitDefEqProofs := false) (decide := true) (maxSteps := 4000000) [ini, g_ybegun, ybegunC_eq, g_rnewT, rnewTC_eq, g_rmakeT, rmakeTC_eq, g_rlinkT, rlinkTC_eq, g_bwrite, bwriteC_eq, g_bread, breadC_eq, g_bcut, bcutC_eq, g_rsameT6, rsameT6C_eq, bB_t]
  refine br_dec (fun hlt => ?_) fun hge => ?_
  · have hs0 : specW (bytesOf was) (bytesOf text) at' i (max (bytesOf was).length (at' + i + 1)) W := by
      obtain ⟨h1, h2, h3, h4⟩ := hs
      refine ⟨h1, h2, ?_, h4⟩
      split at h3 <;> omega
    refine ex_loopU (σ := Nat × List Int) [15, 90, 91, 92, 93, 94, 95, 96, 97, 98] (fun a => [(15, .own a.1 (.int .u8) a.2)]) (fun a => specW (bytesOf was) (bytesOf text) at' i (max (bytesOf was).length (at' + i + 1)) a.2) (fun a => at' + i + 1 - a.2.length) (_, W) hs0 (hc rfl hn) ?_
    rintro j2 ⟨q2, W2⟩ hs2
    simp (implicitDefEqProofs := false) (decide := true) (maxSteps := 4000000) [ini, g_ybegun, ybegunC_eq, g_rnewT, rnewTC_eq, g_rmakeT, rmakeTC_eq, g_rlinkT, rlinkTC_eq, g_bwrite, bwriteC_eq, g_bread, breadC_eq, g_bcut, bcutC_eq, g_rsameT6, rsameT6C_eq, bB_t]
    intro _
    have wk : IntKind.i64.wrap ((at' : Int) + (i : Int)) = ((at' + i : Nat) : Int) := w_nat (by omega) (by omega)
    rw [wk]
    have hs2 : specW (bytesOf was) (bytesOf text) at' i (max (bytesOf was).length (at' + i + 1)) W2 := hs2
    have hup := hs2.2.2.1
    refine br_dec (fun hle m2 => ⟨by omega, _, _, spec_more hs2 (by omega), by rw [List.length_append, List.length_singleton]; omega, rfl, rfl⟩) fun hgt => ?_
    have hgt : at' + i < W2.length := by omega
    refine ⟨hlt, ⟨by omega, by omega⟩, by omega, i + 1, q2, _, ⟨hlt, ?_⟩, by omega, w_nat rfl (by omega), rfl, rfl⟩
    rw [if_neg (by omega), Int.toNat_natCast, ← hB]
    have := spec_set hs2 hgt
    rw [← bytes_at0 text i]
    exact this
  · obtain rfl : i = text.size := by omega
    have hWu : W = bytesOf uu := hspec _ W rfl hs
    have hn0 : IntKind.i64.wrap (n_size0 : Int) = (n_size0 : Int) := w_nat rfl (by omega)
    have hn1 : Int.tmod (n_size0 : Int) 121 = ((n_size0 % 121 : Nat) : Int) := rfl
    have hnlt := Nat.mod_lt n_size0 (show 0 < 121 by decide)
    rw [hn0, hn1]
    generalize n_size0 % 121 = n at hnlt ⊢
    have hR : ∀ s : ByteArray, ∀ p : ByteArray, (p = ⟨#[47, 97]⟩ ∨ p = ⟨#[47, 98]⟩) → readT (bN s) p false = (s, 0) := fun s p hp => by
      obtain ⟨k1, k2⟩ := bN_read s p hp
      rw [readT, if_neg (by simpa using k1), k2]
    rw [bN_cut uu _ (.inl rfl) n (by omega), hR _ _ (.inl rfl), hR _ _ (.inr rfl)]
    have hls : (longB uu (n : Int)).size = n := by rw [longB_size]; omega
    refine ⟨⟨bN_fit huf, bN_len _⟩, ⟨bN_fit (by rw [hls]; omega), bN_len _⟩, ?_, rfl, by rw [hls], ?_⟩
    · rw [hWu, strOf_bytesOf]
    refine ex_loopU (σ := Nat) [8, 24, 140, 141, 142, 143, 144, 145, 146, 147, 148, 149, 150, 151, 152, 153, 154, 155, 156, 157, 158, 159, 160, 161, 162, 163, 164, 165, 166, 167, 168, 169, 170] (fun a => [(24, .val (.int .i64) (a : Int))]) (fun a => a ≤ n) (fun a => n - a) 0 (Nat.zero_le _) (hc rfl hn) ?_
    rintro j3 k hk
    simp (implicitDefEqProofs := false) (decide := true) (maxSteps := 4000000) [ini, g_ybegun, ybegunC_eq, g_rnewT, rnewTC_eq, g_rmakeT, rmakeTC_eq, g_rlinkT, rlinkTC_eq, g_bwrite, bwriteC_eq, g_bread, breadC_eq, g_bcut, bcutC_eq, g_rsameT6, rsameT6C_eq, bB_t]
    intro hkn
    have hend : ∃ a', a' ≤ n ∧ n - a' < n - k ∧ IntKind.i64.wrap ((k : Int) + 1) = (a' : Int) := ⟨k + 1, hkn, by omega, w_nat rfl (by omega)⟩
    have hat := long_at uu n k hkn
    rw [← hWu] at hat
    have hz : W.length ≤ k → byteAt (longB uu (n : Int)) k = 0 := fun h => by
      rw [hat, List.getD_eq_getElem?_getD, List.getElem?_eq_none h]; rfl
    refine br_dec (fun h1 => ⟨by omega, h1, by rw [hat, List.getD_eq_getElem?_getD], br_dec (fun h2 => absurd h1 (by omega)) fun _ => hend⟩) fun h1 => br_dec (fun h2 => ⟨by omega, hz h2, hend⟩) fun _ => hend
end Go.Proofs.YthhjlbpmpffapaaDoor
