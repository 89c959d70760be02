import Derived.Test.YtodkmhamaahjmaaGreatDoorEdit1
import Derived.Test.YtodkmhamaahjmaaGreatDoorG16
import Derived.Test.YtodkmhamaahjmaaGreatDoorG2
set_option maxRecDepth 100000
set_option maxHeartbeats 4000000
set_option linter.unusedSimpArgs false
set_option linter.unusedVariables false
set_option pp.deepTerms.threshold 30
set_option pp.maxSteps 20000
namespace Go.Proofs.YtodkmhamaahjmaaGreatDoor
open Go.Tm Go.IntWalk
noncomputable def ΓeditDrops : Cons := cons [(8, zbegunC), (9, pmadeC), (10, ptreeC), (14, rmakeTC), (27, rwriteTC), (16, elinkC), (26, rfindTC), (20, edropC), (28, rlinksC), (15, rsameT6C)]
theorem ΓeditDrops_ok : ConsOK Tryz.prog ΓeditDrops := (consOK_cons zbegun_ok (consOK_cons pmade_ok (consOK_cons ptree_ok (consOK_cons rmakeT_ok (consOK_cons rwriteT_ok (consOK_cons elink_ok (consOK_cons rfindT_ok (consOK_cons edrop_ok (consOK_cons rlinks_ok (consOK_cons rsameT6_ok consOK_nil))))))))))
theorem editDrops_ex : LawEx tab ΓeditDrops Tryz.f7 [.slice (.int .u8), .arr 4 (.int .u8)] := by
  intro l h1 h2
  obtain ⟨picks, l1, rfl, e1⟩ := types_cons h1
  obtain ⟨order, l2, rfl, e2⟩ := types_cons e1
  obtain rfl := types_nil e2
  clear h1 e1 e2
  have g_zbegun : ΓeditDrops 8 = some zbegunC := rfl
  have g_pmade : ΓeditDrops 9 = some pmadeC := rfl
  have g_ptree : ΓeditDrops 10 = some ptreeC := rfl
  have g_rmakeT : ΓeditDrops 14 = some rmakeTC := rfl
  have g_rwriteT : ΓeditDrops 27 = some rwriteTC := rfl
  have g_elink : ΓeditDrops 16 = some elinkC := rfl
  have g_rfindT : ΓeditDrops 26 = some rfindTC := rfl
  have g_edrop : ΓeditDrops 20 = some edropC := rfl
  have g_rlinks : ΓeditDrops 28 = some rlinksC := rfl
  have g_rsameT6 : ΓeditDrops 15 = some rsameT6C := rfl
  have b_picks : isB picks := okv_bytes (h2 ⟨_, picks⟩ (by simp))
  have v_order : okv (.arr 4 (.int .u8)) order := h2 ⟨_, order⟩ (by simp)
  clear h2
  simp only [Tryz.f7, Option.getD_some]
  simp (implicitDefEqProofs := false) (decide := true) (maxSteps := 4000000) [ini, g_zbegun, zbegunC_eq, g_pmade, pmadeC_eq, g_ptree, ptreeC_eq]
  intro ho4 _ hp1
  have hp1 : List.length picks ≤ 60 := Int.ofNat_le.1 hp1
  have o1 : okP (picks, 0, ()) := ⟨b_picks, Int.le_refl 0, by simp only; omega, by simp only; omega⟩
  have gt : GoodT (grownP 12 (picks, 0, ()) newT).1 := good_grown newT_good
  have hnb : NamesIn (fun s => letterB s = true) (grownP 12 (picks, 0, ()) newT).1 := names_grown newT_good names_new
  refine fun m => ⟨o1, ?_⟩
  generalize (grownP 12 (picks, 0, ()) newT).1 = t at gt hnb ⊢
  have h9 : t.length = 9 := gt.len
  have ft := gt.fit
  intro m1
  simp (implicitDefEqProofs := false) (decide := true) (maxSteps := 4000000) [ini, g_rmakeT, rmakeTC_eq, ft, h9]
  intro m2
  have gx := good_makeT gt n0P 1 6 0 false
  have fx : fitT (makeT t n0P 1 6 0 false).1 := gx.fit
  by_cases he : (makeT t n0P 1 6 0 false).2 = 0
  case neg =>
    have he8 := made_err gt hnb he
    have hx : (makeT t n0P 1 6 0 false).1 = t := makeT_err he
    obtain ⟨q1, q2⟩ := pathN_parts n0P n0_in
    have hfind : findT t n0P false = (0, 2) := by
      rw [find_of (by rw [q1]), q1]
      show walk0 t ([] ++ [nmP n0P]) = _
      rw [walk_end gt (walk_nil t) gt.root, if_neg (by rw [bare_free gt hnb q2]; simp)]
    have hwr : writeT t n0P 0 textN false = (t, 2) := by
      unfold writeT fileT
      rw [hfind]; rfl
    simp (implicitDefEqProofs := false) (decide := true) (maxSteps := 4000000) [ini, g_rwriteT, rwriteTC_eq, hx, ft, he8]
    have hwr1 : (writeT t n0P 0 textN false).1 = t := by rw [hwr]
    have hwr2 : (writeT t n0P 0 textN false).2 = 2 := by rw [hwr]
    refine fun m3 => ex_loopU (σ := Unit) [6, 8, 10, 36, 37, 38, 39, 40, 41, 42, 43, 44, 45, 46, 47, 48, 49, 50, 51, 52] (fun _ => [(6, .val TreeT (writeT t n0P 0 textN false).1), (8, .val (.int .i64) (writeT t n0P 0 textN false).2), (10, .val (.int .i64) (1 : Int))]) (fun _ => True) (fun _ => 0) () trivial (hc rfl (hc rfl (hc rfl hn))) ?_
    rintro j _ _
    simp (implicitDefEqProofs := false) (decide := true) (maxSteps := 4000000) [ini, hwr1, hwr2, he8]
  obtain ⟨hw0, N, P⟩ := plus_made gt hnb he
  simp (implicitDefEqProofs := false) (decide := true) (maxSteps := 4000000) [ini, g_rwriteT, rwriteTC_eq, fx, he]
  have hpl : pathN.length = 4 := rfl
  refine fun m3 => ex_loopU (σ := List Node × Int × Nat) [6, 8, 10, 36, 37, 38, 39, 40, 41, 42, 43, 44, 45, 46, 47, 48, 49, 50, 51, 52] (fun s => [(6, .val TreeT s.1), (8, .val (.int .i64) s.2.1), (10, .val (.int .i64) (s.2.2 : Int))]) (fun s => 1 ≤ s.2.2 ∧ s.2.2 ≤ 4 ∧ ((s.2.1 = 0 ∧ Plus t s.1 N (pathN.take s.2.2)) ∨ s.2.1 = 8)) (fun s => 4 - s.2.2) ((writeT (makeT t n0P 1 6 0 false).1 n0P 0 textN false).1, (writeT (makeT t n0P 1 6 0 false).1 n0P 0 textN false).2, 1) ⟨Nat.le_refl 1, Nat.le_of_lt (Nat.lt_succ_of_le (Nat.le_of_lt (Nat.lt_succ_of_le (Nat.le_succ 1)))), .inl ⟨hw0, P⟩⟩ (hc rfl (hc rfl (hc rfl hn))) ?_
  rintro j ⟨x, f, i⟩ ⟨hi1, hi4, hI⟩
  simp only at hi1 hi4 hI
  rcases hI with ⟨hf0, PX⟩ | hf8
  case inr =>
    subst hf8
    simp (implicitDefEqProofs := false) (decide := true) (maxSteps := 4000000) [ini, he]
  subst hf0
  have fxx : fitT x := PX.good.fit
  have x9 : x.length = 9 := PX.good.len
  simp (implicitDefEqProofs := false) (decide := true) (maxSteps := 4000000) [ini, he, g_elink, elinkC_eq, fxx, x9]
  refine br_dec (fun hlt => ⟨hlt, by omega, ?_⟩) (fun hge => ?_)
  · have hstep : ∀ p, pathN[i]?.getD ({ data := #[] } : ByteArray) = p → p ∈ pathN → p ∉ pathN.take i → n0P ∈ pathN.take i → pathN.take (i + 1) = pathN.take i ++ [p] → p.size ≤ 1000000000 →
        ByteArray.size (pathN[i]?.getD ({ data := #[] } : ByteArray)) ≤ 1000000000 ∧ ∃ (a : List Node) (a_1 : Int) (b : Nat), (1 ≤ b ∧ b ≤ 4 ∧ (a_1 = 0 ∧ Plus t a N (pathN.take b) ∨ a_1 = 8)) ∧ 4 - b < 4 - i ∧ (linkT x n0P (pathN[i]?.getD ({ data := #[] } : ByteArray)) false).1 = a ∧ (linkT x n0P (pathN[i]?.getD ({ data := #[] } : ByteArray)) false).2 = a_1 ∧ IntKind.i64.wrap ((i : Int) + 1) = (b : Int) := fun p e m1 m2 m3 m4 m5 => by
      rw [e]
      refine ⟨m5, _, _, i + 1, ⟨by omega, by omega, ?_⟩, by omega, rfl, rfl, w_nat rfl (by omega)⟩
      rcases plus_link PX m3 m1 m2 with h | ⟨h, h'⟩
      · exact .inr h
      · exact .inl ⟨h, by rw [m4]; exact h'⟩
    rcases (show i = 1 ∨ i = 2 ∨ i = 3 by omega) with rfl | rfl | rfl
    · exact hstep ⟨#[47, 110, 49]⟩ rfl (by simp [pathN]) (fun h => absurd (inB_iff.2 h) (by decide +kernel)) (inB_iff.1 (by decide +kernel)) rfl (by decide)
    · exact hstep ⟨#[47, 110, 50]⟩ rfl (by simp [pathN]) (fun h => absurd (inB_iff.2 h) (by decide +kernel)) (inB_iff.1 (by decide +kernel)) rfl (by decide)
    · exact hstep ⟨#[47, 110, 51]⟩ rfl (by simp [pathN]) (fun h => absurd (inB_iff.2 h) (by decide +kernel)) (inB_iff.1 (by decide +kernel)) rfl (by decide)
  obtain rfl : i = 4 := by omega
  have hfd := PX.find (p := n0P) n0_in
  intro m4
  simp (implicitDefEqProofs := false) (decide := true) (maxSteps := 4000000) [ini, g_rfindT, rfindTC_eq, fxx, hfd]
  refine ex_loopU (σ := List Node × List ByteArray × Nat × Nat) [4, 6, 9, 13, 14, 15, 16, 74, 75, 76, 77, 78, 79, 80, 81, 82, 83, 84, 85, 86, 87, 88, 89, 90, 91, 92, 93, 94, 95, 96, 97, 98, 99, 100, 101, 102, 103, 104, 105, 106, 107, 108, 109, 110, 111, 112, 113, 114, 115, 116, 117, 118, 119, 120, 121, 122, 123, 124, 125, 126, 127, 128, 129, 130, 131, 132, 133, 134, 135, 136, 137, 138, 139, 140, 141, 142, 143] (fun s => [(6, .val TreeT s.1), (9, .own s.2.2.2 .str s.2.1), (13, .val (.int .i64) (s.2.2.1 : Int))]) (fun s => s.2.2.1 ≤ 4 ∧ ((s.2.2.1 < 4 ∧ Plus t s.1 N s.2.1 ∧ s.2.1.length = 4 - s.2.2.1) ∨ (s.2.2.1 = 4 ∧ s.1 = t))) (fun s => 4 - s.2.2.1) (x, pathN, 0, _) ⟨Nat.zero_le 4, .inl ⟨(Nat.lt_of_sub_eq_succ rfl : 0 < 4), PX, rfl⟩⟩ (hc rfl (hc rfl (hc rfl hn))) ?_
  rintro j2 ⟨x2, L, i, mm⟩ ⟨hi4, hI⟩
  simp only at hi4 hI
  rcases hI with ⟨hi, P2, hL⟩ | ⟨rfl, hx2⟩
  case inr =>
    rw [hx2]
    simp (implicitDefEqProofs := false) (decide := true) (maxSteps := 4000000) [ini, g_rsameT6, rsameT6C_eq]
  have f2 : fitT x2 := P2.good.fit
  have l2 : x2.length = 9 := P2.good.len
  have hlk := P2.links
  have hnd := P2.node
  have hi' : (i : Int) < 4 := Int.ofNat_lt.2 hi
  have ol : order.length = 4 := v_order.1
  have hoi : i < order.length := by rw [ol]; exact hi
  have hm : 4 ≤ maxLen + i := by unfold maxLen; omega
  have hne : ¬ 4 - i = 0 := by omega
  obtain ⟨o, ho, ho0, ho1⟩ : ∃ o : Int, order[i] = o ∧ 0 ≤ o ∧ o ≤ 255 := ⟨_, rfl, (okv_arr v_order _ (List.getElem_mem hoi)).1, by
    have := (okv_arr v_order _ (List.getElem_mem hoi)).2
    first | exact this | exact Int.le_of_lt_add_one this⟩
  have hwv : IntKind.i64.wrap o = o := by
    have := w_nat (z := o) (n := o.toNat) (by omega) (by omega)
    omega
  obtain ⟨k, hk⟩ : ∃ k : Nat, o.tmod ↑(4 - i) = (k : Int) := ⟨_, (Int.toNat_of_nonneg (Int.tmod_nonneg _ ho0)).symm⟩
  have hkl : k < 4 - i := by
    have := Int.tmod_lt_of_pos o (show (0 : Int) < ↑(4 - i) by omega)
    omega
  have hkL : k < L.length := by rw [hL]; exact hkl
  have hget : L[k]?.getD ({ data := #[] } : ByteArray) = L[k] := by rw [List.getElem?_eq_getElem hkL]; rfl
  obtain ⟨d1, d2, d3⟩ := plus_drop P2 hkL
  have hps : L[k].size ≤ 1000000000 := by
    have h := P2.sub _ (List.getElem_mem hkL)
    have : ∀ p ∈ pathN, p.size ≤ 1000000000 := by decide +kernel
    exact this _ h
  have gd := good_delT P2.good L[k] false
  have hgd := gd.len
  have fgd := gd.fit
  simp (implicitDefEqProofs := false) (decide := true) (maxSteps := 4000000) [ini, hi, hi', hL, hoi, hm, hne, ho, hwv, hk, hkl, hget, g_edrop, edropC_eq, f2, l2, hps, d1, hgd]
  generalize (delT x2 L[k] false).1 = y at d2 d3 gd hgd fgd ⊢
  intro m5
  have hlo := P.lo
  have hhi := P.hi
  have hwN : IntKind.i64.wrap (N - 1) = (((N - 1).toNat : Nat) : Int) := w_nat (by omega) (by omega)
  have hwk : IntKind.i64.wrap ((k : Int) + 1) = ((k + 1 : Nat) : Int) := w_nat (by omega) (by omega)
  have her : List.take k L ++ List.take (L.length - (k + 1)) (List.drop (k + 1) L) = L.eraseIdx k := by
    rw [List.take_of_length_le (show (List.drop (k + 1) L).length ≤ L.length - (k + 1) by rw [List.length_drop]; exact Nat.le_refl _)]
    exact (List.eraseIdx_eq_take_drop_succ L k).symm
  have htx : ByteArray.toList textN = [116, 101, 120, 116] := by decide +kernel
  have htd : ¬ ByteArray.toList dfltN.2.2.1 = [116, 101, 120, 116] := by decide +kernel
  have htk : ¬ dfltN.1 = 1 := by decide +kernel
  have hnod : y[(IntKind.i64.wrap (N - 1)).toNat]?.getD (0, 0, { data := #[] }, ()) = nodeT y N := by rw [hwN, Int.toNat_natCast]; rfl
  by_cases h3 : i < 3
  · have P3 := d2 (by rw [hL]; omega)
    have k3 := P3.links
    have n3 := P3.node
    have e3 : (L.eraseIdx k).length = 3 - i := by rw [List.length_eraseIdx_of_lt hkL, hL]; omega
    rw [e3] at k3
    have hi3 : (i : Int) < 3 := Int.ofNat_lt.2 h3
    have hw3 : IntKind.i64.wrap (3 - (i : Int)) = ((3 - i : Nat) : Int) := w_nat (by omega) (by omega)
    simp (implicitDefEqProofs := false) (decide := true) (maxSteps := 4000000) [ini, g_rlinks, rlinksC_eq, fgd, hgd, k3, hw3, hi3, h3]
    rw [hnod, n3, hwk, hwN, Int.toNat_natCast, her]
    exact ⟨⟨by omega, by omega⟩, htx, ⟨by omega, by omega⟩, rfl, by omega, by omega, ⟨by omega, by omega⟩, by omega, y, L.eraseIdx k, i + 1, ⟨by omega, .inl ⟨by omega, P3, by omega⟩⟩, by omega, rfl, rfl, w_nat rfl (by omega)⟩
  · obtain rfl : i = 3 := by omega
    have hy := d3 hL
    subst hy
    have k3 : linksT y N = 0 := by
      unfold linksT
      rw [if_neg P.ne, hgd, absent gd P.free P.hi]; rfl
    have n3 := gd.none N P.lo P.hi P.free
    simp (implicitDefEqProofs := false) (decide := true) (maxSteps := 4000000) [ini, g_rlinks, rlinksC_eq, fgd, hgd, k3]
    rw [hnod, n3, hwk, hwN, Int.toNat_natCast, her]
    exact ⟨⟨by omega, by omega⟩, htd, ⟨by omega, by omega⟩, htk, by omega, by omega, ⟨by omega, by omega⟩, by omega, y, L.eraseIdx k, 4, ⟨by omega, .inr ⟨rfl, rfl⟩⟩, rfl, rfl, rfl, w_nat rfl (by omega)⟩
end Go.Proofs.YtodkmhamaahjmaaGreatDoor
