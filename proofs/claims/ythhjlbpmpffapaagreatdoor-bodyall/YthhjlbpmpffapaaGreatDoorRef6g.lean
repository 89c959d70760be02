/- The reference's moves, walked. -/
import Derived.Test.YthhjlbpmpffapaaGreatDoorRef6f
set_option maxRecDepth 100000
set_option maxHeartbeats 2000000
set_option linter.unusedSimpArgs false
set_option linter.unusedVariables false
set_option pp.deepTerms.threshold 30
namespace Go.Proofs.YthhjlbpmpffapaaGreatDoor
open Go.Tm Go.IntWalk
/-- The contract of glacisref6.within, for chains that are shorter than k. -/
noncomputable def rwithinK (k : Nat) : Con := conN [(.v, TreeT), (.v, .int .i64), (.v, .int .i64)] fun (t, d, i, _) => if fitT t ∧ Deep t k i then some ⟨.val ⟨.bool, withinB t d i⟩, []⟩ else none
theorem rwithinK_rows (k : Nat) : rowy (rwithinK k) = false := rfl
theorem rwithinK_eq {k : Nat} {t : List Node} {d i : Int} : rwithinK k [.val ⟨TreeT, t⟩, .val ⟨.int .i64, d⟩, .val ⟨.int .i64, i⟩] = if fitT t ∧ Deep t k i then some ⟨.val ⟨.bool, withinB t d i⟩, []⟩ else none := conN_mk (ks := [(.v, TreeT), (.v, .int .i64), (.v, .int .i64)]) (t, d, i, ())
noncomputable def Γwithin (k : Nat) : Cons := cons [(40, rnamesC), (78, rwithinK k)]
theorem rwithin_ex (k : Nat) (t : List Node) (d i : Int) (hr : fitT t ∧ Deep t (k + 1) i) : Ex tab (Γwithin k) (Tryz.f78.body.getD .skip) (EndsF tab Tryz.f78.results.toList [.val ⟨TreeT, t⟩, .val ⟨.int .i64, d⟩, .val ⟨.int .i64, i⟩] ⟨.val ⟨.bool, withinB t d i⟩, []⟩) (ini [.val ⟨TreeT, t⟩, .val ⟨.int .i64, d⟩, .val ⟨.int .i64, i⟩]) := by
  have g_1 : Γwithin k 40 = some rnamesC := rfl
  have g_2 : Γwithin k 78 = some (rwithinK k) := rfl
  obtain ⟨h1, h2⟩ := hr
  have ht : t.length ≤ 1000 := h1.1
  simp only [Tryz.f78, Option.getD_some]
  simp (implicitDefEqProofs := false) (decide := true) (maxSteps := 4000000) [ini, g_1, g_2, rnamesC_eq, rwithinK_eq, rwithinK_rows]
  refine br_intro (fun h => ?_) fun h0 => ⟨h1, ?_⟩
  · have h : d = i := by simpa using h
    subst h
    exact withinB_yes .here
  have h0 : d ≠ i := by simpa using h0
  refine ex_loopU (σ := Nat) [6, 8, 15, 16, 17, 18, 19, 20, 21, 22, 23, 24, 25, 26, 27, 28, 29, 30, 31, 32, 33, 34, 35, 36, 37, 38, 39, 40, 41, 42, 43, 44, 45, 46, 47, 48, 49, 50, 51] (fun a => [(8, .val (.int .i64) (a : Int))]) (fun a => a ≤ (namesT t i).length ∧ ∀ e ∈ (namesT t i).take a, e.2.1 ≤ (t.length : Int) → kindT t e.2.1 = 2 → ¬ Within t d e.2.1) (fun a => (namesT t i).length - a) 0 ⟨Nat.zero_le _, by simp⟩ (hc rfl hn) ?_
  rintro j a ⟨ha, hno⟩
  simp (implicitDefEqProofs := false) (decide := true) (maxSteps := 4000000) [ini, g_1, g_2, rnamesC_eq, rwithinK_eq, rwithinK_rows]
  intro _
  refine br_dec (fun hlt => ⟨hlt, fun _ => ?_⟩) fun hge => ?_
  · obtain ⟨x, hd, hx, hmem, htk⟩ := split_at hlt
    rw [hx]
    have hxo := okE_out (namesT_ok hmem)
    have hnext : (x.2.1 ≤ (t.length : Int) → kindT t x.2.1 = 2 → ¬ Within t d x.2.1) → ∃ a', (a' ≤ (namesT t i).length ∧ ∀ (a : ByteArray) (a_3 : Int) (b : Unit), (a, a_3, b) ∈ List.take a' (namesT t i) → a_3 ≤ (t.length : Int) → kindT t a_3 = 2 → ¬Within t d a_3) ∧
        (namesT t i).length - a' < (namesT t i).length - a ∧ IntKind.i64.wrap ((a : Int) + 1) = (a' : Int) := by
      intro hq
      refine ⟨a + 1, ⟨by omega, fun n z u hm => ?_⟩, by omega, w_nat rfl (by have := namesT_len t i; omega)⟩
      rw [htk, List.mem_append, List.mem_singleton] at hm
      rcases hm with hm | hm
      · exact hno _ hm
      · have e : z = x.2.1 := by rw [← hm]
        rw [e]; exact hq
    refine br_dec (fun hle => ?_) fun hgt => hnext fun h => absurd h hgt
    have w1 : IntKind.i64.wrap (x.2.1 - 1) = x.2.1 - 1 := i64_in _ (by omega)
    rw [w1, kind_at]
    refine ⟨hlt, ⟨by omega, by omega⟩, br_intro (fun hk => ?_) fun hk => hnext fun _ h => ?_⟩
    · have hk : kindT t x.2.1 = 2 := by unfold kindT; simpa using hk
      refine ⟨hlt, ⟨h1, h2 x hmem hle hk⟩, br_intro (fun hw => ?_) fun hw => hnext fun _ _ => not_withinB hw⟩
      exact withinB_yes (.down hmem hle hk (of_withinB hw))
    · unfold kindT at h
      rw [h] at hk
      simp at hk
  · refine withinB_no fun hw => ?_
    cases hw with
    | here => exact h0 rfl
    | down he hl hk h => exact hno _ (by rw [List.take_of_length_le (by omega)]; exact he) hl hk h
/-- The contract of glacisref6.within. -/
noncomputable def rwithinC : Con := conN [(.v, TreeT), (.v, .int .i64), (.v, .int .i64)] fun (t, d, i, _) => if fitT t ∧ endsT t i then some ⟨.val ⟨.bool, withinB t d i⟩, []⟩ else none
theorem rwithinC_eq {t : Ty.den (TreeT)} {d : Int} {i : Int} : rwithinC [.val ⟨TreeT, t⟩, .val ⟨.int .i64, d⟩, .val ⟨.int .i64, i⟩] = if fitT t ∧ endsT t i then some ⟨.val ⟨.bool, withinB t d i⟩, []⟩ else none := conN_mk (ks := [(.v, TreeT), (.v, .int .i64), (.v, .int .i64)]) (t, d, i, ())
noncomputable def Γrwithin : Cons := cons []
theorem rwithinK_ok : ∀ k, ConOK Tryz.prog 78 (rwithinK k)
  | 0 => by
    intro args out vals w R hc
    obtain ⟨x, e, h1⟩ := conN_inv hc
    obtain ⟨t, d, i, x0⟩ := x
    replace h1 : (if fitT t ∧ Deep t 0 i then some ⟨.val ⟨.bool, withinB t d i⟩, []⟩ else none) = some out := h1
    rw [if_neg (fun h => h.2)] at h1
    cases h1
  | k + 1 => by
    refine con_ok tab_ok (Γ := Γwithin k) (consOK_cons rnames_ok (consOK_cons (rwithinK_ok k) consOK_nil)) (by kernel_rfl) Tryz.func78 (by kernel_rfl) ?_
    intro args out h
    obtain ⟨x, e, h1⟩ := conN_inv h
    clear h
    obtain ⟨t, d, i, x0⟩ := x
    subst e
    replace h1 : (if fitT t ∧ Deep t (k + 1) i then some ⟨.val ⟨.bool, withinB t d i⟩, []⟩ else none) = some out := h1
    split at h1
    case isFalse => cases h1
    rename_i hr
    injection h1 with h1
    subst h1
    exact ⟨by rw [mkArgs_len]; decide, rwithin_ex k t d i hr⟩
theorem rwithin_ok : ConOK Tryz.prog 78 rwithinC := by
  intro args out vals w R hc
  obtain ⟨x, e, h1⟩ := conN_inv hc
  obtain ⟨t, d, i, x0⟩ := x
  replace h1 : (if fitT t ∧ endsT t i then some ⟨.val ⟨.bool, withinB t d i⟩, []⟩ else none) = some out := h1
  split at h1
  case isFalse => cases h1
  rename_i hr
  obtain ⟨hf, k, hk⟩ := hr
  refine rwithinK_ok k args out vals w R ?_
  rw [e, ← h1]
  exact rwithinK_eq.trans (if_pos ⟨hf, hk⟩)
/-- The contract of glacisref6.Move. -/
noncomputable def rmoveTC : Con := conN [(.v, TreeT), (.v, .str), (.v, .str), (.v, .bool)] fun (t, f, p, own, _) => if fitT t ∧ allDeep t ∧ f.size ≤ 4000000000 ∧ p.size ≤ 4000000000 then some ⟨.tup [⟨TreeT, (moveT t f p own).1⟩, ⟨.int .i64, (moveT t f p own).2⟩], []⟩ else none
theorem rmoveTC_eq {t : Ty.den (TreeT)} {f : ByteArray} {p : ByteArray} {own : Bool} : rmoveTC [.val ⟨TreeT, t⟩, .val ⟨.str, f⟩, .val ⟨.str, p⟩, .val ⟨.bool, own⟩] = if fitT t ∧ allDeep t ∧ f.size ≤ 4000000000 ∧ p.size ≤ 4000000000 then some ⟨.tup [⟨TreeT, (moveT t f p own).1⟩, ⟨.int .i64, (moveT t f p own).2⟩], []⟩ else none := conN_mk (ks := [(.v, TreeT), (.v, .str), (.v, .str), (.v, .bool)]) (t, f, p, own, ())
noncomputable def ΓrmoveT : Cons := cons [(42, rpartsC), (26, rfindTC), (44, rplaceC), (40, rnamesC), (45, rfindDC), (78, rwithinC), (77, rcutTC), (46, rputTC)]
theorem rmoveT_ex (t : Ty.den (TreeT)) (f : ByteArray) (p : ByteArray) (own : Bool) (hr : fitT t ∧ allDeep t ∧ f.size ≤ 4000000000 ∧ p.size ≤ 4000000000) : Ex tab ΓrmoveT (Tryz.f64.body.getD .skip) (EndsF tab Tryz.f64.results.toList [.val ⟨TreeT, t⟩, .val ⟨.str, f⟩, .val ⟨.str, p⟩, .val ⟨.bool, own⟩] ⟨.tup [⟨TreeT, (moveT t f p own).1⟩, ⟨.int .i64, (moveT t f p own).2⟩], []⟩) (ini [.val ⟨TreeT, t⟩, .val ⟨.str, f⟩, .val ⟨.str, p⟩, .val ⟨.bool, own⟩]) := by
  have g_rparts : ΓrmoveT 42 = some rpartsC := rfl
  have g_rfindT : ΓrmoveT 26 = some rfindTC := rfl
  have g_rplace : ΓrmoveT 44 = some rplaceC := rfl
  have g_rnames : ΓrmoveT 40 = some rnamesC := rfl
  have g_rfindD : ΓrmoveT 45 = some rfindDC := rfl
  have g_rwithin : ΓrmoveT 78 = some rwithinC := rfl
  have g_rcutT : ΓrmoveT 77 = some rcutTC := rfl
  have g_rputT : ΓrmoveT 46 = some rputTC := rfl
  simp only [Tryz.f64, Option.getD_some]
  simp (implicitDefEqProofs := false) (decide := true) (maxSteps := 4000000) [ini, g_rparts, rpartsC_eq, g_rfindT, rfindTC_eq, g_rplace, rplaceC_eq, g_rnames, rnamesC_eq, g_rfindD, rfindDC_eq, g_rwithin, rwithinC_eq, g_rcutT, rcutTC_eq, g_rputT, rputTC_eq]
  obtain ⟨h1, h2, h3, h4⟩ := hr
  have ht : t.length ≤ 1000 := h1.1
  have hpl := parts_len p own
  have hpl2 := parts_len f own
  have hM := moveT.eq_1 t f p own
  generalize moveT t f p own = M at hM ⊢
  refine ⟨h3, h4, br_intro (fun h => ?_) fun h5 => br_intro (fun h => ?_) fun h6 => ⟨⟨h1, h3⟩, br_intro (fun h => ?_) fun h7 => br_intro (fun h => ?_) fun h8 _ => br_intro (fun h => ?_) fun h9 => ?_⟩⟩
  · rw [hM, if_pos (.inl (by simpa using h))]; exact ⟨rfl, rfl⟩
  · rw [hM, if_pos (.inr (by simpa using h))]; exact ⟨rfl, rfl⟩
  · rw [hM, if_neg (by rintro (k | k) <;> simp_all), if_pos (by simpa using h)]; exact ⟨rfl, rfl⟩
  · rw [hM, if_neg (by rintro (k | k) <;> simp_all), if_neg (by simpa using h7), if_pos (by simpa using h)]; exact ⟨rfl, rfl⟩
  · rw [hM, if_neg (by rintro (k | k) <;> simp_all), if_neg (by simpa using h7), if_neg (by simpa using h8), if_pos (by rw [beq_iff_eq] at h; exact Int.ofNat.inj h)]; exact ⟨rfl, rfl⟩
  have n2 : ¬ (partsS p own).1.length = 0 := fun e => by rw [e] at h9; simp at h9
  have hne : (partsS p own).1 ≠ [] := fun e => n2 (by rw [e]; rfl)
  rw [if_neg (by rintro (k | k) <;> simp_all), if_neg (by simpa using h7), if_neg (by simpa using h8), if_neg n2] at hM
  have h7 : (findT t f own).2 = 0 := by simpa using h7
  have h8 : (findT t f own).1 ≠ 1 := by simpa using h8
  have hf := findT_range h7
  have hnf := find_root h7 h8
  have hnf1 : 1 ≤ (partsS f own).1.length := by
    cases e : (partsS f own).1 with
    | nil => exact absurd e hnf
    | cons x r => simp
  obtain ⟨p1, p2, p3⟩ := walk_snoc (by rw [← (find_parts h7).2]; exact h7) hnf
  have hpo := @placeT_ok t (partsS p own).1
  have hpn := @place_name t p own
  have hpo2 := @placeT_ok t (partsS f own).1
  obtain ⟨W, hW⟩ : ∃ W, placeT t (partsS p own).1 = W := ⟨_, rfl⟩
  obtain ⟨U, hU⟩ : ∃ U, placeT t (partsS f own).1 = U := ⟨_, rfl⟩
  rw [hW] at hpo hpn hM ⊢
  rw [hU] at hpo2 hM p1 p2 p3 ⊢
  obtain ⟨u1, u2, u3, u4, u5, u6⟩ := hpo2 p1
  refine ⟨⟨h1, by omega, by omega⟩, br_intro (fun h => ?_) fun h10 => ⟨⟨h1, by omega, by omega⟩, ?_⟩⟩
  · rw [hM, if_pos (by simpa using h)]; exact ⟨rfl, rfl⟩
  rw [if_neg (by simpa using h10)] at hM
  have h10 : W.2.2 = 0 := by simpa using h10
  obtain ⟨v1, v2, v3, v4, v5, v6⟩ := hpo h10
  have hnm := ownS_size (partOK_own (hpn h10 hne))
  have w1 : IntKind.i64.wrap ((findT t f own).1 - 1) = (findT t f own).1 - 1 := i64_in _ (by omega)
  rw [w1, kind_at, eql_eq]
  have hdf := dropT_fit h1 U.1 U.2.1
  have hdl := dropT_len t U.1 U.2.1
  have tl : ¬ (U.1 = W.1 ∧ U.2.1 = W.2.1) → (fitT t ∧ br (findD (namesT t W.1) W.2.1).2 (t = M.1 ∧ 3 = M.2) ((0 ≤ (findT t f own).1 - 1 ∧ (findT t f own).1 - 1 < (t.length : Int)) ∧
      br ((nodeT t (findT t f own).1).1 == 2) ((fitT t ∧ endsT t (findT t f own).1) ∧ br (withinB t W.1 (findT t f own).1) (t = M.1 ∧ 7 = M.2) ((fitT t ∧ 1 ≤ U.1 ∧ U.1 ≤ (t.length : Int)) ∧
        (fitT (dropT t U.1 U.2.1) ∧ 1 ≤ W.1 ∧ W.1 ≤ ((dropT t U.1 U.2.1).length : Int) ∧ W.2.1.size ≤ 4000000000) ∧ br (!(putT (dropT t U.1 U.2.1) W.1 (W.2.1, (findT t f own).1, ())).2) (t = M.1 ∧ 8 = M.2) ((putT (dropT t U.1 U.2.1) W.1 (W.2.1, (findT t f own).1, ())).1 = M.1 ∧ 0 = M.2)))
      ((fitT t ∧ 1 ≤ U.1 ∧ U.1 ≤ (t.length : Int)) ∧ (fitT (dropT t U.1 U.2.1) ∧ 1 ≤ W.1 ∧ W.1 ≤ ((dropT t U.1 U.2.1).length : Int) ∧ W.2.1.size ≤ 4000000000) ∧ br (!(putT (dropT t U.1 U.2.1) W.1 (W.2.1, (findT t f own).1, ())).2) (t = M.1 ∧ 8 = M.2) ((putT (dropT t U.1 U.2.1) W.1 (W.2.1, (findT t f own).1, ())).1 = M.1 ∧ 0 = M.2)))) := by
    intro hx
    rw [if_neg hx] at hM
    refine ⟨h1, br_intro (fun h => ?_) fun h11 => ⟨⟨by omega, by omega⟩, ?_⟩⟩
    · rw [hM, if_pos h]; exact ⟨rfl, rfl⟩
    rw [if_neg (by rw [h11]; simp)] at hM
    have t2 : ¬ (kindT t (findT t f own).1 = 2 ∧ withinB t W.1 (findT t f own).1 = true) → ((fitT t ∧ 1 ≤ U.1 ∧ U.1 ≤ (t.length : Int)) ∧ (fitT (dropT t U.1 U.2.1) ∧ 1 ≤ W.1 ∧ W.1 ≤ ((dropT t U.1 U.2.1).length : Int) ∧ W.2.1.size ≤ 4000000000) ∧ br (!(putT (dropT t U.1 U.2.1) W.1 (W.2.1, (findT t f own).1, ())).2) (t = M.1 ∧ 8 = M.2) ((putT (dropT t U.1 U.2.1) W.1 (W.2.1, (findT t f own).1, ())).1 = M.1 ∧ 0 = M.2)) := by
      intro hy
      rw [if_neg hy] at hM
      refine ⟨⟨h1, u1, u2⟩, ⟨hdf, v1, by rw [hdl]; exact v2, by omega⟩, br_intro (fun h => ?_) fun h => ?_⟩
      · rw [hM, if_pos (by simpa using h)]; exact ⟨rfl, rfl⟩
      · rw [hM, if_neg (by simpa using h)]; exact ⟨rfl, rfl⟩
    refine br_intro (fun hk => ⟨⟨h1, h2 _⟩, br_intro (fun hw => ?_) fun hw => t2 fun hc => ?_⟩) fun hk => t2 fun hc => ?_
    · have hc : kindT t (findT t f own).1 = 2 ∧ withinB t W.1 (findT t f own).1 = true := ⟨by unfold kindT; simpa using hk, hw⟩
      rw [hM, if_pos hc]; exact ⟨rfl, rfl⟩
    · rw [hc.2] at hw; cases hw
    · have hc1 := hc.1
      unfold kindT at hc1
      rw [hc1] at hk
      simp at hk
  refine br_intro (fun ha => br_intro (fun hb => ?_) fun hb => tl fun hc => ?_) fun ha => tl fun hc => ?_
  · rw [hM, if_pos ⟨by simpa using ha, eqB_iff.1 hb⟩]; exact ⟨rfl, rfl⟩
  · rw [hc.2, eqB_refl] at hb; cases hb
  · rw [hc.1] at ha; simp at ha
theorem rmoveT_ok : ConOK Tryz.prog 64 rmoveTC := by
  refine con_ok tab_ok (Γ := ΓrmoveT) (consOK_cons rparts_ok (consOK_cons rfindT_ok (consOK_cons rplace_ok (consOK_cons rnames_ok (consOK_cons rfindD_ok (consOK_cons rwithin_ok (consOK_cons rcutT_ok (consOK_cons rputT_ok consOK_nil)))))))) (by kernel_rfl) Tryz.func64 (by kernel_rfl) ?_
  intro args out h
  obtain ⟨x, e, h1⟩ := conN_inv h
  clear h
  obtain ⟨t, f, p, own, x0⟩ := x
  subst e
  replace h1 : (if fitT t ∧ allDeep t ∧ f.size ≤ 4000000000 ∧ p.size ≤ 4000000000 then some ⟨.tup [⟨TreeT, (moveT t f p own).1⟩, ⟨.int .i64, (moveT t f p own).2⟩], []⟩ else none) = some out := h1
  split at h1
  case isFalse => cases h1
  rename_i hr
  injection h1 with h1
  subst h1
  exact ⟨by rw [mkArgs_len]; decide, rmoveT_ex t f p own hr⟩
end Go.Proofs.YthhjlbpmpffapaaGreatDoor
