import Derived.Test.YtodkmhamaahjmaaGreatDoorEdit1
import Derived.Test.YtodkmhamaahjmaaGreatDoorG16
import Derived.Test.YtodkmhamaahjmaaGreatDoorG2
set_option maxRecDepth 100000
set_option maxHeartbeats 4000000
set_option linter.unusedSimpArgs false
set_option linter.unusedVariables false
set_option pp.deepTerms.threshold 60
namespace Go.Proofs.YtodkmhamaahjmaaGreatDoor
open Go.Tm Go.IntWalk
noncomputable def ΓeditMakes : Cons := cons [(8, zbegunC), (9, pmadeC), (10, ptreeC), (13, emakeC), (26, rfindTC), (15, rsameT6C)]
theorem ΓeditMakes_ok : ConsOK Tryz.prog ΓeditMakes := (consOK_cons zbegun_ok (consOK_cons pmade_ok (consOK_cons ptree_ok (consOK_cons emake_ok (consOK_cons rfindT_ok (consOK_cons rsameT6_ok consOK_nil))))))
theorem editMakes_ex : LawEx tab ΓeditMakes Tryz.f6 [.slice (.int .u8), .int .u8, .int .u8, .int .u8] := by
  intro l h1 h2
  obtain ⟨picks, l1, rfl, e1⟩ := types_cons h1
  obtain ⟨kind0, l2, rfl, e2⟩ := types_cons e1
  obtain ⟨mode0, l3, rfl, e3⟩ := types_cons e2
  obtain ⟨ino0, l4, rfl, e4⟩ := types_cons e3
  obtain rfl := types_nil e4
  clear h1 e1 e2 e3 e4
  have g_zbegun : ΓeditMakes 8 = some zbegunC := rfl
  have g_pmade : ΓeditMakes 9 = some pmadeC := rfl
  have g_ptree : ΓeditMakes 10 = some ptreeC := rfl
  have g_emake : ΓeditMakes 13 = some emakeC := rfl
  have g_rfindT : ΓeditMakes 26 = some rfindTC := rfl
  have g_rsameT6 : ΓeditMakes 15 = some rsameT6C := rfl
  have b_picks : isB picks := okv_bytes (h2 ⟨_, picks⟩ (by simp))
  obtain ⟨n_kind0, rfl, h_kind0⟩ := okv_u8 (h2 ⟨_, kind0⟩ (by simp))
  obtain ⟨n_mode0, rfl, h_mode0⟩ := okv_u8 (h2 ⟨_, mode0⟩ (by simp))
  obtain ⟨n_ino0, rfl, h_ino0⟩ := okv_u8 (h2 ⟨_, ino0⟩ (by simp))
  clear h2
  simp only [Tryz.f6, Option.getD_some]
  simp (implicitDefEqProofs := false) (decide := true) (maxSteps := 4000000) [ini, g_zbegun, zbegunC_eq, g_pmade, pmadeC_eq, g_ptree, ptreeC_eq]
  intro _ hp1
  have hp1 : List.length picks ≤ 60 := Int.ofNat_le.1 hp1
  have o1 : okP (picks, 0, ()) := ⟨b_picks, Int.le_refl 0, by simp only; omega, by simp only; omega⟩
  have gt : GoodT (grownP 30 (picks, 0, ()) newT).1 := good_grown newT_good
  have hnb : NamesIn (fun s => letterB s = true) (grownP 30 (picks, 0, ()) newT).1 := names_grown newT_good names_new
  refine fun m => ⟨o1, ?_⟩
  generalize (grownP 30 (picks, 0, ()) newT).1 = t at gt hnb ⊢
  refine ex_loopU (σ := Nat) [12, 13, 33, 34, 35, 36, 37, 38, 39, 40, 41, 42, 43, 44] (fun s => [(12, .val (.int .i64) (leastS t s)), (13, .val (.int .i64) (9 - (s : Int)))]) (fun s => s ≤ 9) (fun s => 9 - s) 0 (by decide) (hc rfl (hc rfl hn)) ?_
  rintro j s hs
  simp (implicitDefEqProofs := false) (decide := true) (maxSteps := 4000000) [ini]
  have h9 : t.length = 9 := gt.len
  have hat : ∀ hs : s < 9, kindT t (9 - (s : Int)) = (t[(9 - (s : Int) - 1).toNat]?.getD (0, 0, { data := #[] }, ())).1 := fun hs => by
    unfold kindT nodeT
    rw [List.getD_eq_getElem?_getD]; rfl
  refine br_dec (fun h1 => ?_) fun hge => ?_
  · have hs9 : s < 9 := by omega
    have hw : IntKind.i64.wrap (9 - (s : Int) - 1) = 9 - (s : Int) - 1 := i64_in _ (by omega)
    rw [hw, h9]
    refine ⟨by omega, br_intro (fun hk => ⟨s + 1, by omega, by omega, ?_, by show (9 : Int) - (s : Int) - 1 = 9 - ((s + 1 : Nat) : Int); omega⟩) fun hk => ⟨s + 1, by omega, by omega, ?_, by show (9 : Int) - (s : Int) - 1 = 9 - ((s + 1 : Nat) : Int); omega⟩⟩
    · rw [← hat hs9] at hk
      rw [leastS, if_pos (by simpa using hk)]
    · rw [← hat hs9] at hk
      rw [leastS, if_neg (by simpa using hk)]
  obtain rfl : s = 9 := by omega
  rw [least_free h9]
  intro m1
  have ft := gt.fit
  have sz : (newP : ByteArray).size ≤ 1000000000 := by decide
  simp (implicitDefEqProofs := false) (decide := true) (maxSteps := 4000000) [ini, g_emake, emakeC_eq, ft, h9]
  have i1 : IntKind.i64.wrap ((n_ino0 : Int).tmod 11) = ((n_ino0 % 11 : Nat) : Int) := by
    rw [Int.tmod_eq_emod_of_nonneg (by omega), i64_in _ (by omega)]; omega
  have i2 : IntKind.i64.wrap (1 + IntKind.i64.wrap ((n_kind0 : Int).tmod 2)) = 1 + ((n_kind0 % 2 : Nat) : Int) := by
    rw [Int.tmod_eq_emod_of_nonneg (by omega), show IntKind.i64.wrap ((n_kind0 : Int) % 2) = (n_kind0 : Int) % 2 from i64_in _ (by omega), i64_in _ (by omega)]; omega
  have i3 : IntKind.i64.wrap (n_mode0 : Int) = (n_mode0 : Int) := i64_in _ (by omega)
  rw [i1, i2, i3]
  obtain ⟨N, hN⟩ : ∃ N : Int, ((n_ino0 % 11 : Nat) : Int) = N := ⟨_, rfl⟩
  obtain ⟨K, hK⟩ : ∃ K : Int, 1 + ((n_kind0 % 2 : Nat) : Int) = K := ⟨_, rfl⟩
  obtain ⟨M, hM⟩ : ∃ M : Int, (n_mode0 : Int) = M := ⟨_, rfl⟩
  have bN : 0 ≤ N ∧ N ≤ 10 := by omega
  have bK : K = 1 ∨ K = 2 := by omega
  have bM : 0 ≤ M ∧ M ≤ 255 := by omega
  have y2 : rowy rsameT6C = false := by decide
  rw [hN, hK, hM]
  by_cases hN10 : N = 10
  case pos =>
    subst hN10
    have hg1 : makeT t newP K M 10 false = (t, 1) := by
      unfold makeT
      rw [if_pos (.inr (.inr (.inr (.inr (.inr (by decide))))))]
    refine br_intro (fun _ m2 => ⟨by rw [hg1], ?_⟩) (fun h => absurd h (by decide))
    simp (implicitDefEqProofs := false) (decide := true) (maxSteps := 4000000) [ini, g_rsameT6, rsameT6C_eq, hg1]
  obtain ⟨k1, k2⟩ := make_new gt hnb (kind := K) (mode := M) (ino := N) bK bM (by omega)
  have hw : IntKind.i64.wrap (N - 1) = N - 1 := i64_in _ (by omega)
  have hat : kindT t N = (t[(N - 1).toNat]?.getD (0, 0, { data := #[] }, ())).1 := by
    unfold kindT nodeT
    rw [List.getD_eq_getElem?_getD]; rfl
  refine br_intro (fun h => absurd (by simpa using h) hN10) (fun _ => ?_)
  by_cases he : (makeT t newP K M N false).2 = 0
  case neg =>
    obtain ⟨hx, h38⟩ := k1 he
    refine br_intro (fun _ m2 => ?_) (fun h => absurd (by simpa using h) he)
    refine br_intro (fun _ => ?_) (fun h8 => ?_)
    · simp (implicitDefEqProofs := false) (decide := true) (maxSteps := 4000000) [ini, g_rsameT6, rsameT6C_eq, hx]
    · have h8' : ¬ (makeT t newP K M N false).2 = 8 := by simpa using h8
      obtain ⟨e1, e2, e3⟩ := h38.resolve_left h8'
      refine ⟨e1, e2, by rw [hw]; omega, by rw [hw, ← hat]; exact e3, ?_⟩
      simp (implicitDefEqProofs := false) (decide := true) (maxSteps := 4000000) [ini, g_rsameT6, rsameT6C_eq, hx]
  refine br_intro (fun h => absurd he (by simpa using h)) (fun _ => ?_)
  obtain ⟨f1, f2, f3, f4, f5, f6⟩ := k2 he
  have dft : fitT (makeT t newP K M N false).1 := (good_makeT gt newP K M N false).fit
  have hfin : ∀ NN : Int, (if N = 0 then freeT t else N) = NN → 0 < NN ∧ (0 ≤ IntKind.i64.wrap (NN - 1) ∧ IntKind.i64.wrap (NN - 1) < (t.length : Int)) ∧ (t[(IntKind.i64.wrap (NN - 1)).toNat]?.getD (0, 0, { data := #[] }, ())).1 = 0 ∧ (0 ≤ IntKind.i64.wrap (NN - 1) ∧ IntKind.i64.wrap (NN - 1) < 9) ∧
      same NodeT ((makeT t newP K M N false).1[(IntKind.i64.wrap (NN - 1)).toNat]?.getD (0, 0, { data := #[] }, ())) (K, IntKind.i64.wrap M, { data := #[] }, ()) = true := fun NN hNN => by
    rw [hNN] at f3 f4 f5 f6
    have hw2 : IntKind.i64.wrap (NN - 1) = NN - 1 := i64_in _ (by omega)
    have hwM : IntKind.i64.wrap M = M := i64_in _ (by omega)
    have hn : ∀ u : List Node, nodeT u NN = u[(NN - 1).toNat]?.getD (0, 0, { data := #[] }, ()) := fun u => by
      unfold nodeT
      rw [List.getD_eq_getElem?_getD]; rfl
    unfold kindT at f5
    rw [hn] at f5 f6
    rw [hw2, hwM, h9, f6]
    exact ⟨by omega, ⟨by omega, by omega⟩, f5, ⟨by omega, by omega⟩, same_refl (t := NodeT) (by decide) _⟩
  refine br_intro (fun h0 m2 => ?_) (fun h0 m2 => ?_)
  · have h0' : N = 0 := by simpa using h0
    subst h0'
    rw [if_pos rfl] at f1
    simp (implicitDefEqProofs := false) (decide := true) (maxSteps := 4000000) [ini, g_rfindT, rfindTC_eq, dft, f1, f2]
    exact hfin _ (if_pos rfl)
  · have h0' : ¬ N = 0 := by simpa using h0
    rw [if_neg h0'] at f1
    simp (implicitDefEqProofs := false) (decide := true) (maxSteps := 4000000) [ini, g_rfindT, rfindTC_eq, dft, f1, f2]
    exact hfin _ (if_neg h0')
end Go.Proofs.YtodkmhamaahjmaaGreatDoor
