import Derived.Test.YtlckajldmooefaaFrame7
set_option maxRecDepth 10000
set_option maxHeartbeats 2000000
set_option linter.unusedSimpArgs false
set_option linter.unusedVariables false
set_option pp.deepTerms.threshold 12
namespace Go.Proofs.Ytlckajldmooefaa
open Go.Tm Go.IntWalk Go.Crc
theorem cmdP_ok {p : Pk} (hr : okP p) : okP (cmdP p).2 := by
  have hk := numP_lt hr (show (1 : Int) ≤ 9 by decide)
  have h9 := numP_ok hr 9
  unfold cmdP
  generalize numP p 9 = k at hk h9 ⊢
  rcases (show 1 + k.1 = 1 ∨ 1 + k.1 = 2 ∨ 1 + k.1 = 3 ∨ 1 + k.1 = 4 ∨ 1 + k.1 = 5 ∨ 1 + k.1 = 6 ∨ 1 + k.1 = 7 ∨ 1 + k.1 = 8 ∨ 1 + k.1 = 9 by omega) with e | e | e | e | e | e | e | e | e <;> simp [e]
  · exact numP_ok (numP_ok h9 2) 9
  · exact pathP_ok (numP_ok (numP_ok h9 10) 2)
  · exact pathP_ok (pathP_ok h9)
  · exact pathP_ok (pathP_ok h9)
  · exact pathP_ok h9
  · exact textP_ok (numP_ok (pathP_ok h9) 100)
  · exact numP_ok (pathP_ok h9) 130
  · exact numP_ok (pathP_ok h9) 256
  · exact numP_ok h9 9
def pkAt (p : Pk) : Nat → Pk
  | 0 => p
  | i + 1 => (cmdP (pkAt p i)).2
theorem pkAt_ok {p : Pk} (h : okP p) : ∀ i, okP (pkAt p i)
  | 0 => h
  | i + 1 => cmdP_ok (pkAt_ok h i)
def cmdAt (p : Pk) (i : Nat) : Cmd := (cmdP (pkAt p i)).1
theorem cmdAt_may {p : Pk} (h : okP p) (i : Nat) : mayS (cmdAt p i) = true := cmdP_may (pkAt_ok h i)
def frAt (s : Nat) (p : Pk) (i : Nat) : List Int := frameS ((s + i : Nat) : Int) (cmdAt p i)
def fromTo (s : Nat) (p : Pk) (i n : Nat) : List Int := ((List.range' i n).map (frAt s p)).flatten
theorem fromTo_more (s : Nat) (p : Pk) (n : Nat) : fromTo s p 0 (n + 1) = fromTo s p 0 n ++ frAt s p n := by
  simp [fromTo, List.range'_concat]
theorem fromTo_next (s : Nat) (p : Pk) (i n : Nat) : fromTo s p i (n + 1) = frAt s p i ++ fromTo s p (i + 1) n := by
  simp [fromTo, List.range'_succ]
theorem isB_fromTo (s : Nat) (p : Pk) (i n : Nat) : isB (fromTo s p i n) := by
  induction n generalizing i with
  | zero => exact isB_nil
  | succ n ih => rw [fromTo_next]; exact isB_append.2 ⟨isB_frameS _ _, ih _⟩
theorem frAt_len {s : Nat} {p : Pk} (h : okP p) (i : Nat) : (frAt s p i).length ≤ 800 := by
  have hf := may_fine (cmdAt_may h i)
  obtain ⟨f1, f2, f3, f4, f5, f6, f7, f8, f9⟩ := hf.out
  have := frame_len (seq := ((s + i : Nat) : Int)) hf
  unfold frAt
  omega
theorem fromTo_len {s : Nat} {p : Pk} (h : okP p) (i n : Nat) : (fromTo s p i n).length ≤ 800 * n := by
  induction n generalizing i with
  | zero => simp [fromTo]
  | succ n ih =>
    rw [fromTo_next, List.length_append]
    have := frAt_len (s := s) h i
    have := ih (i + 1)
    omega
def Γrow : Cons := cons [(8, fbegunC), (9, pmadeC), (10, pcmdC), (11, fputC), (15, ftakeC)]
theorem Γrow_ok : ConsOK Try.prog Γrow := consOK_cons fbegun_ok (consOK_cons pmade_ok (consOK_cons pcmd_ok (consOK_cons fput_ok (consOK_cons ftake_ok consOK_nil))))
theorem frameRow_ex : LawEx tab Γrow Try.f7 [.slice (.int .u8), .int .u16] := by
  intro l h1 h2
  obtain ⟨picks, l1, rfl, e1⟩ := types_cons h1
  obtain ⟨seq, l2, rfl, e2⟩ := types_cons e1
  obtain rfl := types_nil e2
  clear h1 e1 e2
  have g1 : Γrow 8 = some fbegunC := rfl
  have g2 : Γrow 9 = some pmadeC := rfl
  have g3 : Γrow 10 = some pcmdC := rfl
  have g4 : Γrow 11 = some fputC := rfl
  have g5 : Γrow 15 = some ftakeC := rfl
  have bp : isB picks := okv_bytes (h2 ⟨_, picks⟩ (by simp))
  obtain ⟨sn, rfl, hs⟩ := okv_u16 (h2 ⟨_, seq⟩ (by simp))
  clear h2
  have w1 : IntKind.i64.wrap (sn : Int) = (sn : Int) := w_nat rfl (by omega)
  have t1 : Int.tmod (sn : Int) 60000 = ((sn % 60000 : Nat) : Int) := tmod_nat sn 60000
  have hq := Nat.mod_lt sn (show 0 < 60000 by decide)
  generalize sn % 60000 = s at t1 hq
  simp only [Try.f7, Option.getD_some]
  simp (implicitDefEqProofs := false) (decide := true) [ini, g1, g2, g3, g4, g5, fbegunC_eq, pmadeC_eq, pcmdC_eq, fputC_eq, ftakeC_eq, w1, t1]
  intro _ hp m
  have hp0 : okP (picks, 0, ()) := ⟨bp, Int.le_refl 0, by simp only; omega, by simp only; omega⟩
  refine ex_loopN2 6 (.int .u8) 7 CmdT rfl (fun _ => rfl) (σ := Nat × Nat × Nat × Nat × List Int × List Cmd) [4, 5, 6, 7, 9, 10, 11, 12, 30, 31, 32, 33, 34, 35, 36, 37, 38, 39, 40, 41, 42, 43, 44, 45, 46, 47, 48, 49, 50, 51, 52]
    (fun a => [(9, .val (.int .i64) (a.1 : Int)), (5, .obj a.2.1 PkT (pkAt (picks, 0, ()) a.1)), (6, .own a.2.2.1 (.int .u8) a.2.2.2.2.1), (7, .own a.2.2.2.1 CmdT a.2.2.2.2.2)])
    (fun a => a.1 ≤ 6 ∧ a.2.2.2.2.1 = fromTo s (picks, 0, ()) 0 a.1 ∧ a.2.2.2.2.2 = (List.range a.1).map (cmdAt (picks, 0, ()))) (fun a => 6 - a.1) (fun m => ⟨(0, _, m, m + 1, [], []), ⟨by simp, by simp [fromTo], by simp⟩, hc rfl (hc rfl (hc rfl (hc rfl hn)))⟩) ?_
  rintro m2 j ⟨i, q1, q2, q3, xs, cs⟩ ⟨hi, hx, hcs⟩
  simp only at hi hx hcs
  have hok := pkAt_ok hp0 i
  have hm := cmdAt_may hp0 i
  have ws : IntKind.i64.wrap ((s : Int) + (i : Int)) = ((s + i : Nat) : Int) := w_nat rfl (by omega)
  have hk : okF ((s + i : Nat) : Int) (cmdAt (picks, 0, ()) i) = true := ok_of hm (by omega) (by omega)
  have hput : putF ((s + i : Nat) : Int) (cmdAt (picks, 0, ()) i) = frAt s (picks, 0, ()) i := if_pos hk
  have hc' : (cmdP (pkAt (picks, 0, ()) i)).1 = cmdAt (picks, 0, ()) i := rfl
  have hfl := frAt_len (s := s) hp0 i
  have hxl : xs.length ≤ 800 * i := by rw [hx]; exact fromTo_len hp0 0 i
  have hcl : cs.length = i := by rw [hcs]; simp
  simp (implicitDefEqProofs := false) (decide := true) [ini, g1, g2, g3, g4, g5, fbegunC_eq, pmadeC_eq, pcmdC_eq, fputC_eq, ftakeC_eq, w1, t1, ws, hc', hk, hput]
  have hk2 : okF ((s : Int) + (i : Int)) (cmdAt (picks, 0, ()) i) = true := by simpa using hk
  have hput2 : putF ((s : Int) + (i : Int)) (cmdAt (picks, 0, ()) i) = frAt s (picks, 0, ()) i := by simpa using hput
  rw [hput2]
  refine br_dec (fun hlt => ?_) (fun hge => ?_)
  · refine ⟨hok, hk2, fun m3 => ⟨by omega, by omega, ?_⟩⟩
    refine ⟨i + 1, _, _, _, _, _, ⟨by omega, by rw [hx, fromTo_more], by rw [hcs, List.range_succ, List.map_append]; rfl⟩, by omega, w_nat rfl (by omega), ⟨rfl, rfl⟩, ⟨rfl, rfl⟩, rfl, rfl⟩
  · obtain rfl : i = 6 := by omega
    refine ex_loopR 6 rfl (σ := Nat) [4, 6, 13, 14, 15, 16, 17, 18, 19, 53, 54, 55, 56, 57, 58, 59, 60, 61, 62, 63, 64, 65, 66, 67, 68, 69, 70, 71, 72, 73, 74, 75, 76, 77, 78, 79, 80, 81, 82, 83, 84, 85, 86, 87, 88, 89, 90, 91, 92, 93, 94, 95, 96, 97, 98] (fun a => [(13, .val (.int .i64) (a : Int)), (6, .val (.slice (.int .u8)) (fromTo s (picks, 0, ()) a (6 - a)))])
      (fun a => a ≤ 6) (fun a => 6 - a) 0 (by simp) (hc rfl (hc (by rw [hx]; rfl) hn)) ?_
    rintro j2 i2 hi2
    have ws1 : IntKind.i64.wrap ((s : Int) + (i2 : Int)) = ((s + i2 : Nat) : Int) := w_nat rfl (by omega)
    have ws2 : IntKind.i64.wrap (((s + i2 : Nat) : Int) + 1) = ((s + i2 + 1 : Nat) : Int) := w_nat rfl (by omega)
    simp (implicitDefEqProofs := false) (decide := true) [ini, g5, ftakeC_eq, isB_fromTo]
    rw [ws1, ws2]
    refine br_dec (fun hlt => ?_) (fun hge _ => ?_)
    · have hm2 := cmdAt_may hp0 i2
      have hk3 : okF ((s + i2 : Nat) : Int) (cmdAt (picks, 0, ()) i2) = true := ok_of hm2 (by omega) (by omega)
      have e6 : 6 - i2 = (6 - (i2 + 1)) + 1 := by omega
      have hB := isB_fromTo s (picks, 0, ()) (i2 + 1) (6 - (i2 + 1))
      have t2 := takeF_put hk3 hB
      have t3 := takeF_other hk3 (seq' := ((s + i2 + 1 : Nat) : Int)) (by omega) hB
      have e7 : frameS ((s + i2 : Nat) : Int) (cmdAt (picks, 0, ()) i2) ++ fromTo s (picks, 0, ()) (i2 + 1) (6 - (i2 + 1)) = fromTo s (picks, 0, ()) i2 (6 - i2) := by
        rw [e6, fromTo_next]; rfl
      rw [e7] at t2 t3
      rw [t2, t3]
      have hl : (fromTo s (picks, 0, ()) i2 (6 - i2)).length = (frameS ((s + i2 : Nat) : Int) (cmdAt (picks, 0, ()) i2)).length + (fromTo s (picks, 0, ()) (i2 + 1) (6 - (i2 + 1))).length := by
        rw [← e7, List.length_append]
      have hd : (fromTo s (picks, 0, ()) i2 (6 - i2)).drop (frameS ((s + i2 : Nat) : Int) (cmdAt (picks, 0, ()) i2)).length = fromTo s (picks, 0, ()) (i2 + 1) (6 - (i2 + 1)) := by
        rw [← e7, List.drop_left']; rfl
      have hg : cs[i2]?.getD (0, 0, 0, 0, 0, 0, no, no, no, ()) = cmdAt (picks, 0, ()) i2 := by
        rw [hcs, List.getElem?_map, List.getElem?_range (by omega)]; rfl
      refine ⟨rfl, by omega, ?_, rfl, by simp only; omega, ⟨by simp only; omega, by simp only; omega⟩, i2 + 1, by omega, by omega, w_nat rfl (by omega), ?_⟩
      · rw [show cs[i2]?.getD (0, 0, 0, 0, 0, 0, { data := #[] }, { data := #[] }, { data := #[] }, ()) = cmdAt (picks, 0, ()) i2 from hg]
        exact same_refl (t := CmdT) (by decide) _
      · simp only [Int.toNat_natCast]
        rw [hd, List.take_of_length_le (by omega)]
    · obtain rfl : i2 = 6 := by omega
      rfl
end Go.Proofs.Ytlckajldmooefaa
