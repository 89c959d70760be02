/- slot: what is taken. -/
import Derived.Test.YtjhnbndfepnpmaaSlot1
import Derived.Test.YtjhnbndfepnpmaaPBlock
import Derived.Test.YtjhnbndfepnpmaaRdQ
set_option maxRecDepth 10000
set_option maxHeartbeats 1000000
set_option linter.unusedSimpArgs false
set_option linter.unusedVariables false
set_option pp.deepTerms.threshold 12
namespace Go.Proofs.Ytjhnbndfepnpmaa
open Go.Tm Go.IntWalk

def noSl : Sl := (0, 0, 0, 0, 0, ())
/-- The i-th number of a text, if it is there. -/
def atT (t : ByteArray) (i : Nat) : Int := if 4 * (i + 1) ≤ t.size then (takeS ((bytesOf t).drop (4 * i)) 4).1 else 0
def rdSl (b : Blk) : Sl := (b.2.1, atT b.2.2.1 0, atT b.2.2.1 1, atT b.2.2.1 2, atT b.2.2.1 3, ())
def takeSl (s : ByteArray) : Sl × Bool := if (takeB s).2 = true ∧ putSl (rdSl (takeB s).1) = s then (rdSl (takeB s).1, true) else (noSl, false)
theorem takeB_true {s : ByteArray} (h : (takeB s).2 = true) : s.size = 64 := by
  unfold takeB at h
  split at h
  · rename_i h2; exact h2.1
  · cases h
theorem takeB_may {s : ByteArray} (h : (takeB s).2 = true) : mayB (takeB s).1 = true := by
  unfold takeB at h ⊢
  split at h
  · rename_i h2
    rw [if_pos h2]
    exact (putB_fifth h2.2 h2.1).2.1
  · cases h
theorem bytesOf_tail {t : ByteArray} {k : Nat} (h : k ≤ t.size) : bytesOf (t.extract k t.size) = (bytesOf t).drop k := by
  have e : t.extract k t.size = strOf (((bytesOf t).drop k).take (t.size - k)) := by
    conv => lhs; arg 1; rw [← strOf_bytesOf t]
    have := extract_strOf (bytesOf t) k (t.size - k)
    rw [Nat.add_sub_cancel' h] at this
    exact this
  rw [e, List.take_of_length_le (by rw [List.length_drop, bytesOf_len]; exact Nat.le_refl _), bytesOf_strOf (isB_drop (isB_bytesOf t) k)]
theorem putSl_text {s : ByteArray} {e : Sl} (h : (takeB s).2 = true) (he : putSl e = s) : maySl e = true ∧ (takeB s).1 = blkOf e := by
  cases hm : maySl e with
  | false =>
    have h64 := takeB_true h
    rw [putSl_no hm] at he
    rw [← he, no_size] at h64
    cases h64
  | true =>
    rw [putSl_yes hm] at he
    rw [← he, takeB_put (blkOf_may hm)]
    exact ⟨rfl, rfl⟩
theorem takeSl_no {s : ByteArray} (h : (takeB s).2 = false) : takeSl s = (noSl, false) := if_neg fun e => by rw [h] at e; cases e.1
theorem takeSl_short {s : ByteArray} (h : (takeB s).1.2.2.1.size ≠ 16) : takeSl s = (noSl, false) := if_neg fun e => h (by
  rw [(putSl_text e.1 e.2).2]
  show (strOf (fourL _)).size = 16
  rw [size_strOf, fourL_len])
theorem takeSl_bad {s : ByteArray} (h : ¬ putSl (rdSl (takeB s).1) = s) : takeSl s = (noSl, false) := if_neg fun e => h e.2
theorem takeSl_good {s : ByteArray} (h : (takeB s).2 = true) (h2 : putSl (rdSl (takeB s).1) = s) : takeSl s = (rdSl (takeB s).1, true) := if_pos ⟨h, h2⟩
theorem take4 (l : List Int) : (takeS l 4).2 = decide (4 ≤ l.length) := by
  unfold takeS
  by_cases h : (l.length : Int) < 4
  · rw [if_pos (.inr h), decide_eq_false (by omega)]
  · rw [if_neg (by omega), decide_eq_true (by omega)]
theorem num_step {l : List Int} (h : 4 ≤ l.length) : numS (l, false, ()) 4 = ((takeS l 4).1, (l.drop 4, false, ())) := numS_ok rfl (by rw [take4, decide_eq_true h])
theorem num_short {l : List Int} (h : l.length < 4) : numS (l, false, ()) 4 = (0, (l, true, ())) := numS_bad (.inr (by rw [take4]; exact decide_eq_false (Nat.not_le.2 h)))
theorem num_true (l : List Int) : numS (l, true, ()) 4 = (0, (l, true, ())) := numS_bad (.inl rfl)
def arrT (t : ByteArray) (i : Nat) : List Int := (List.range 4).map fun k => if k < i then atT t k else 0
theorem arrT_len (t : ByteArray) (i : Nat) : (arrT t i).length = 4 := by simp [arrT]
theorem arrT_get (t : ByteArray) (i : Nat) {k : Nat} (h : k < 4) : (arrT t i)[k]? = some (if k < i then atT t k else 0) := by simp [arrT, h]
theorem arrT_set (t : ByteArray) {i : Nat} (h : i < 4) : (arrT t i).set i (atT t i) = arrT t (i + 1) := by
  refine List.ext_getElem? fun k => ?_
  rcases Nat.lt_or_ge k 4 with hk | hk
  · rw [arrT_get t (i + 1) hk]
    by_cases e : k = i
    · subst e
      rw [List.getElem?_set_self (by rw [arrT_len]; exact hk), if_pos (by omega)]
    · rw [List.getElem?_set_ne (fun h => e h.symm), arrT_get t i hk]
      by_cases h2 : k < i
      · rw [if_pos h2, if_pos (by omega)]
      · rw [if_neg h2, if_neg (by omega)]
  · rw [List.getElem?_eq_none (by rw [List.length_set, arrT_len]; exact hk), List.getElem?_eq_none (by rw [arrT_len]; exact hk)]
theorem arrT_short (t : ByteArray) {i : Nat} (h : i < 4) (hs : ¬ 4 * (i + 1) ≤ t.size) : arrT t i = arrT t (i + 1) := by
  have h0 : atT t i = 0 := if_neg hs
  unfold arrT
  refine List.map_congr_left fun k hk => ?_
  by_cases e : k = i
  · rw [e, if_neg (Nat.lt_irrefl _), if_pos (Nat.lt_succ_self _), h0]
  · by_cases h2 : k < i
    · rw [if_pos h2, if_pos (by omega)]
    · rw [if_neg h2, if_neg (by omega)]
/-- The contract of slot.Take. -/
def stakeC : Con := conN [(.v, .str)] fun (s, _) => some ⟨.tup [⟨SlT, (takeSl s).1⟩, ⟨.bool, (takeSl s).2⟩], []⟩
theorem stakeC_eq {s : ByteArray} : stakeC [.val ⟨.str, s⟩] = some ⟨.tup [⟨SlT, (takeSl s).1⟩, ⟨.bool, (takeSl s).2⟩], []⟩ := conN_mk (ks := [(.v, .str)]) (s, ())
def Γstake : Cons := cons [(21, btakeC), (22, takeC), (9, sputC)]
theorem stake_ex (s : ByteArray) : Ex tab Γstake (Try.f12.body.getD .skip) (EndsF tab Try.f12.results.toList [.val ⟨.str, s⟩] ⟨.tup [⟨SlT, (takeSl s).1⟩, ⟨.bool, (takeSl s).2⟩], []⟩) (ini [.val ⟨.str, s⟩]) := by
  have g_btake : Γstake 21 = some btakeC := rfl
  have g_take : Γstake 22 = some takeC := rfl
  have g_sput : Γstake 9 = some sputC := rfl
  simp only [Try.f12, Option.getD_some]
  simp (implicitDefEqProofs := false) (decide := true) (maxSteps := 4000000) [ini, g_btake, btakeC_eq, g_take, takeC_eq, g_sput, sputC_eq]
  intro m m1
  refine br_intro (fun h => ?_) fun h m2 => ?_
  · rw [takeSl_no (not_t h)]; exact ⟨rfl, rfl⟩
  have hT : (takeB s).2 = true := not_f h
  obtain ⟨b, hb⟩ : ∃ b : Blk, (takeB s).1 = b := ⟨_, rfl⟩
  rw [hb]
  refine ex_loopU (σ := Nat × Nat) [7, 17, 18, 19, 20, 21, 22, 23, 24, 25, 26, 27, 28, 29, 30, 31, 32, 33, 34, 35, 36, 37, 38, 39, 6] (fun a => [(17, .val (.int .i64) (a.1 : Int)), (6, .obj a.2 (.arr 4 (.int .i64)) (arrT b.2.2.1 a.1))]) (fun a => a.1 ≤ 4) (fun a => 4 - a.1) (0, _) (by simp) (hc rfl (hc rfl hn)) ?_
  rintro j ⟨i, q⟩ hi
  have hi : i ≤ 4 := hi
  simp (implicitDefEqProofs := false) (decide := true) [ini, g_take, g_sput, takeC_eq, sputC_eq]
  have hm := takeB_may hT
  rw [hb] at hm
  have a5 := (mayB_iff.1 hm).2.2.2.2
  have a5 : ByteArray.size b.2.2.1 ≤ 55 := a5
  have w1 : IntKind.i64.wrap ((i : Int) + 1) = ((i + 1 : Nat) : Int) := w_nat rfl (by omega)
  have w2 : IntKind.i64.wrap (4 * ((i + 1 : Nat) : Int)) = ((4 * (i + 1) : Nat) : Int) := w_nat (by omega) (by omega)
  have w3 : IntKind.i64.wrap (4 * (i : Int)) = ((4 * i : Nat) : Int) := w_nat (by omega) (by omega)
  have al := arrT_len b.2.2.1 i
  rw [w1, w2, w3, Int.toNat_natCast]
  refine br_dec (fun hlt => br_dec (fun h4 => ?_) fun h4 => ⟨i + 1, by omega, by omega, rfl, arrT_short _ (by omega) (by omega)⟩) fun hge => ?_
  · refine ⟨⟨by omega, by omega⟩, by omega, hlt, by omega, i + 1, by omega, by omega, rfl, ?_⟩
    have ha : atT b.2.2.1 i = (takeS (bytesOf (ByteArray.extract b.2.2.1 (4 * i) (ByteArray.size b.2.2.1))) 4).1 := by
      rw [bytesOf_tail (by omega), atT, if_pos (by omega)]
    rw [← ha]
    exact arrT_set _ (by omega)
  · obtain rfl : i = 4 := by omega
    rw [arrT_get _ _ (by decide), arrT_get _ _ (by decide), arrT_get _ _ (by decide), arrT_get _ _ (by decide)]
    simp only [Option.getD_some]
    have hbad := @takeSl_bad s
    have hgood := @takeSl_good s hT
    rw [hb] at hbad hgood
    refine ⟨by omega, by omega, by omega, by omega, ?_⟩
    show br (!(putSl (rdSl b)).toList == s.toList) _ (rdSl b = _ ∧ _)
    refine br_intro (fun h => ?_) fun h => ?_
    · rw [hbad (str_ne h)]; exact ⟨rfl, rfl⟩
    · rw [hgood (str_eq h)]; exact ⟨rfl, rfl⟩
theorem stake_ok : ConOK Try.prog 12 stakeC := by
  refine con_ok tab_ok (Γ := Γstake) (consOK_cons btake_ok (consOK_cons take_ok (consOK_cons sput_ok consOK_nil))) (by kernel_rfl) Try.func12 (by kernel_rfl) ?_
  intro args out h
  obtain ⟨x, e, h1⟩ := conN_inv h
  clear h
  obtain ⟨s, x0⟩ := x
  subst e
  replace h1 : (some ⟨.tup [⟨SlT, (takeSl s).1⟩, ⟨.bool, (takeSl s).2⟩], []⟩) = some out := h1
  injection h1 with h1
  subst h1
  exact ⟨by rw [mkArgs_len]; decide, stake_ex s⟩
/-- The contract of glacisref1.TakeSlot. -/
def rstakeC : Con := conN [(.v, .str)] fun (s, _) => some ⟨.tup [⟨SlT, (takeSl s).1⟩, ⟨.bool, (takeSl s).2⟩], []⟩
theorem rstakeC_eq {s : ByteArray} : rstakeC [.val ⟨.str, s⟩] = some ⟨.tup [⟨SlT, (takeSl s).1⟩, ⟨.bool, (takeSl s).2⟩], []⟩ := conN_mk (ks := [(.v, .str)]) (s, ())
def Γrstake : Cons := cons [(23, rbtakeC), (24, rnumQC), (10, rsputC)]
theorem rstake_ex (s : ByteArray) : Ex tab Γrstake (Try.f13.body.getD .skip) (EndsF tab Try.f13.results.toList [.val ⟨.str, s⟩] ⟨.tup [⟨SlT, (takeSl s).1⟩, ⟨.bool, (takeSl s).2⟩], []⟩) (ini [.val ⟨.str, s⟩]) := by
  have g_rbtake : Γrstake 23 = some rbtakeC := rfl
  have g_rnumQ : Γrstake 24 = some rnumQC := rfl
  have g_rsput : Γrstake 10 = some rsputC := rfl
  simp only [Try.f13, Option.getD_some]
  simp (implicitDefEqProofs := false) (decide := true) (maxSteps := 4000000) [ini, g_rbtake, rbtakeC_eq, g_rnumQ, rnumQC_eq, g_rsput, rsputC_eq]
  refine br_intro (fun h => ?_) fun h => ?_
  · rw [takeSl_no (not_t h)]; exact ⟨rfl, rfl⟩
  have hT : (takeB s).2 = true := not_f h
  obtain ⟨b, hb⟩ : ∃ b : Blk, (takeB s).1 = b := ⟨_, rfl⟩
  have hsh := @takeSl_short s
  have hbad := @takeSl_bad s
  have hgood := @takeSl_good s hT
  rw [hb] at hsh hbad hgood ⊢
  have hl : (bytesOf b.2.2.1).length = b.2.2.1.size := bytesOf_len _
  have hB := isB_bytesOf b.2.2.1
  have i1 := numS_B (r := (bytesOf b.2.2.1, false, ())) hB 4
  have i2 := numS_B i1 4
  have i3 := numS_B i2 4
  have hm := takeB_may hT
  rw [hb] at hm
  have a5 := (mayB_iff.1 hm).2.2.2.2
  refine ⟨Nat.le_trans a5 (by decide), hB, i1, i2, i3, ?_⟩
  clear i1 i2 i3
  rcases Nat.lt_or_ge b.2.2.1.size 16 with h16 | h16
  · have hf : (numS (numS (numS (numS (bytesOf b.2.2.1, false, ()) 4).2 4).2 4).2 4).2.2.1 = true := by
      rcases Nat.lt_or_ge b.2.2.1.size 4 with h1 | h1
      · rw [num_short (by omega), num_true, num_true, num_true]
      rw [num_step (by omega)]
      rcases Nat.lt_or_ge b.2.2.1.size 8 with h2 | h2
      · rw [num_short (by rw [List.length_drop]; omega), num_true, num_true]
      rw [num_step (by rw [List.length_drop]; omega)]
      rcases Nat.lt_or_ge b.2.2.1.size 12 with h3 | h3
      · rw [num_short (by rw [List.length_drop, List.length_drop]; omega), num_true]
      rw [num_step (by rw [List.length_drop, List.length_drop]; omega)]
      rw [num_short (by rw [List.length_drop, List.length_drop, List.length_drop]; omega)]
    rw [hf, hsh (by omega)]
    exact br_intro (fun _ => ⟨rfl, rfl⟩) fun h => Bool.noConfusion h
  · have e1 := num_step (l := bytesOf b.2.2.1) (by omega)
    have e2 := num_step (l := (bytesOf b.2.2.1).drop 4) (by rw [List.length_drop]; omega)
    have e3 := num_step (l := ((bytesOf b.2.2.1).drop 4).drop 4) (by rw [List.length_drop, List.length_drop]; omega)
    have e4 := num_step (l := (((bytesOf b.2.2.1).drop 4).drop 4).drop 4) (by rw [List.length_drop, List.length_drop, List.length_drop]; omega)
    simp only [e1, e2, e3, e4]
    have he : ((b.2.1, (takeS (bytesOf b.2.2.1) 4).1, (takeS ((bytesOf b.2.2.1).drop 4) 4).1, (takeS (((bytesOf b.2.2.1).drop 4).drop 4) 4).1, (takeS ((((bytesOf b.2.2.1).drop 4).drop 4).drop 4) 4).1, ()) : Sl) = rdSl b := by
      simp only [rdSl, atT]
      rw [if_pos (by omega), if_pos (by omega), if_pos (by omega), if_pos (by omega), List.drop_drop, List.drop_drop]
      rfl
    refine br_intro (fun h => Bool.noConfusion h) fun _ => ?_
    show br (!(putSl (_, _, _, _, _, ())).toList == s.toList) _ ((_, _, _, _, _, ()) = _ ∧ _)
    rw [he]
    refine br_intro (fun h => ?_) fun h => ?_
    · rw [hbad (str_ne h)]; exact ⟨rfl, rfl⟩
    · rw [hgood (str_eq h)]; exact ⟨rfl, rfl⟩
theorem rstake_ok : ConOK Try.prog 13 rstakeC := by
  refine con_ok tab_ok (Γ := Γrstake) (consOK_cons rbtake_ok (consOK_cons rnumQ_ok (consOK_cons rsput_ok consOK_nil))) (by kernel_rfl) Try.func13 (by kernel_rfl) ?_
  intro args out h
  obtain ⟨x, e, h1⟩ := conN_inv h
  clear h
  obtain ⟨s, x0⟩ := x
  subst e
  replace h1 : (some ⟨.tup [⟨SlT, (takeSl s).1⟩, ⟨.bool, (takeSl s).2⟩], []⟩) = some out := h1
  injection h1 with h1
  subst h1
  exact ⟨by rw [mkArgs_len]; decide, rstake_ex s⟩
end Go.Proofs.Ytjhnbndfepnpmaa
