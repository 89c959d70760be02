/- block: what is taken. -/
import Derived.Test.YtjhnbndfepnpmaaBlock1
set_option maxRecDepth 10000
set_option maxHeartbeats 1000000
set_option linter.unusedSimpArgs false
set_option linter.unusedVariables false
set_option pp.deepTerms.threshold 12
namespace Go.Proofs.Ytjhnbndfepnpmaa
open Go.Tm Go.IntWalk

def rdB (b : List Int) : Blk := ((takeS b 1).1, (takeS (b.drop 1) 4).1, (takeTextS (b.drop 5)).1, ())
def noB : Blk := (0, 0, no, ())
def takeB (s : ByteArray) : Blk × Bool := if s.size = 64 ∧ putB (rdB (bytesOf s)) = s then (rdB (bytesOf s), true) else (noB, false)
theorem mk_fifth (k x : Int) (t : ByteArray) (rest : List Int) : ((bytesN 1 k ++ (bytesN 4 x ++ (t.size : Int) :: bytesOf t)) ++ rest).getD 5 0 = t.size := by
  have h1 := bytesN_len 1 k
  have h4 := bytesN_len 4 x
  rw [List.getD_eq_getElem?_getD, ← List.append_assoc, List.append_assoc, List.getElem?_append_right (by simp [h1, h4])]
  simp [h1, h4]
theorem isB_blkL {e : Blk} (h : e.2.2.1.size ≤ 255) : isB (blkL e) := by
  rw [blkL_eq h]
  exact isB_append.2 ⟨isB_bytesN _ _, isB_append.2 ⟨isB_bytesN _ _, isB_cons.2 ⟨by omega, isB_bytesOf _⟩⟩⟩
theorem isB_fullL {e : Blk} (h : e.2.2.1.size ≤ 255) : isB (fullL e) := isB_append.2 ⟨isB_blkL h, isB_rep _⟩
theorem no_size : no.size = 0 := rfl
/-- What is put tells its own length. -/
theorem putB_fifth {e : Blk} {s : ByteArray} (h : putB e = s) (h64 : s.size = 64) : (bytesOf s).getD 5 0 ≤ 55 ∧ mayB e = true ∧ bytesOf s = fullL e := by
  cases hm : mayB e with
  | false =>
    rw [putB_no hm] at h
    rw [← h, no_size] at h64
    cases h64
  | true =>
    obtain ⟨a1, a2, a3, a4, a5⟩ := mayB_iff.1 hm
    rw [putB_yes hm] at h
    have hb : bytesOf s = fullL e := by rw [← h, bytesOf_strOf (isB_fullL (by omega))]
    refine ⟨?_, rfl, hb⟩
    rw [hb, fullL, blkL_eq (by omega), mk_fifth]
    omega
theorem takeB_eq {s : ByteArray} {e : Blk} (h64 : s.size = 64) (he : (bytesOf s).getD 5 0 ≤ 55 → e = rdB (bytesOf s)) : takeB s = if putB e = s then (e, true) else (noB, false) := by
  unfold takeB
  by_cases hx : (bytesOf s).getD 5 0 ≤ 55
  · rw [he hx]
    simp only [h64, true_and]
  · rw [if_neg (fun h => hx (putB_fifth h.2 h64).1), if_neg (fun h => hx (putB_fifth h h64).1)]
theorem takeB_size {s : ByteArray} (h : ¬ s.size = 64) : takeB s = (noB, false) := if_neg fun e => h e.1
theorem bne_size {s : ByteArray} (h : ((s.size : Int) != 64) = true) : ¬ s.size = 64 := fun e => by rw [e] at h; simp at h
theorem bne_size' {s : ByteArray} (h : ((s.size : Int) != 64) = false) : s.size = 64 := by
  have : (s.size : Int) = 64 := by simpa using h
  omega
theorem takeS_one {b : List Int} (h : isB b) (hl : 1 ≤ b.length) : (takeS b 1).1 = b.getD 0 0 := by
  match b, hl with
  | x :: l, _ =>
    have hx := (isB_cons.1 h).1
    have hn := takeS_nat (nats_lt h) 1
    rw [ints_nats h] at hn
    rw [hn, if_neg (by rw [nats_length]; simp only [List.length_cons]; omega)]
    have e : ((x.toNat : Nat) : Int) = x := Int.toNat_of_nonneg hx.1
    simp [nats, le, e]
theorem takeText_at {b : List Int} {x : Int} (hx : b.getD 0 0 = x) (h0 : 0 ≤ x) (h : x < b.length) (hs : x < 256) : (takeTextS b).1 = strOf ((b.drop 1).take x.toNat) := by
  unfold takeTextS
  rw [hx, i64_in _ (by omega), if_neg (by omega)]
/-- The contract of block.Take. -/
def btakeC : Con := conN [(.v, .str)] fun (s, _) => some ⟨.tup [⟨BlkT, (takeB s).1⟩, ⟨.bool, (takeB s).2⟩], []⟩
theorem btakeC_eq {s : ByteArray} : btakeC [.val ⟨.str, s⟩] = some ⟨.tup [⟨BlkT, (takeB s).1⟩, ⟨.bool, (takeB s).2⟩], []⟩ := conN_mk (ks := [(.v, .str)]) (s, ())
def Γbtake : Cons := cons [(18, bputC), (22, takeC), (32, takeTextC)]
theorem btake_ex (s : ByteArray) : Ex tab Γbtake (Try.f21.body.getD .skip) (EndsF tab Try.f21.results.toList [.val ⟨.str, s⟩] ⟨.tup [⟨BlkT, (takeB s).1⟩, ⟨.bool, (takeB s).2⟩], []⟩) (ini [.val ⟨.str, s⟩]) := by
  have g_bput : Γbtake 18 = some bputC := rfl
  have g_take : Γbtake 22 = some takeC := rfl
  have g_takeText : Γbtake 32 = some takeTextC := rfl
  simp only [Try.f21, Option.getD_some]
  simp (implicitDefEqProofs := false) (decide := true) (maxSteps := 4000000) [ini, g_bput, bputC_eq, g_take, takeC_eq, g_takeText, takeTextC_eq]
  simp only [← List.drop_one, take_rest]
  have hb : (bytesOf s).length = s.size := bytesOf_len s
  have hB := isB_bytesOf s
  refine br_intro (fun h => ?_) fun h => ?_
  · rw [takeB_size (bne_size h)]; exact ⟨rfl, rfl⟩
  have h64 := bne_size' h
  have g := isB_getD (isB_drop hB 5) 0
  rw [List.getD_eq_getElem?_getD] at g
  refine ⟨by omega, by omega, by omega, g, ?_⟩
  show br (!(putB (rdB (bytesOf s))).toList == s.toList) _ (rdB (bytesOf s) = _ ∧ _)
  refine br_intro (fun h => ?_) fun h => ?_
  · rw [takeB_eq h64 (fun _ => rfl), if_neg (str_ne h)]; exact ⟨rfl, rfl⟩
  · rw [takeB_eq h64 (fun _ => rfl), if_pos (str_eq h)]; exact ⟨rfl, rfl⟩
theorem btake_ok : ConOK Try.prog 21 btakeC := by
  refine con_ok tab_ok (Γ := Γbtake) (consOK_cons bput_ok (consOK_cons take_ok (consOK_cons takeText_ok consOK_nil))) (by kernel_rfl) Try.func21 (by kernel_rfl) ?_
  intro args out h
  obtain ⟨x, e, h1⟩ := conN_inv h
  clear h
  obtain ⟨s, x0⟩ := x
  subst e
  replace h1 : (some ⟨.tup [⟨BlkT, (takeB s).1⟩, ⟨.bool, (takeB s).2⟩], []⟩) = some out := h1
  injection h1 with h1
  subst h1
  exact ⟨by rw [mkArgs_len]; decide, btake_ex s⟩
/-- The contract of glacisref1.TakeBlock. -/
def rbtakeC : Con := conN [(.v, .str)] fun (s, _) => some ⟨.tup [⟨BlkT, (takeB s).1⟩, ⟨.bool, (takeB s).2⟩], []⟩
theorem rbtakeC_eq {s : ByteArray} : rbtakeC [.val ⟨.str, s⟩] = some ⟨.tup [⟨BlkT, (takeB s).1⟩, ⟨.bool, (takeB s).2⟩], []⟩ := conN_mk (ks := [(.v, .str)]) (s, ())
def Γrbtake : Cons := cons [(16, rbputC), (33, rtakeC)]
theorem rbtake_ex (s : ByteArray) : Ex tab Γrbtake (Try.f23.body.getD .skip) (EndsF tab Try.f23.results.toList [.val ⟨.str, s⟩] ⟨.tup [⟨BlkT, (takeB s).1⟩, ⟨.bool, (takeB s).2⟩], []⟩) (ini [.val ⟨.str, s⟩]) := by
  have g_rbput : Γrbtake 16 = some rbputC := rfl
  have g_rtake : Γrbtake 33 = some rtakeC := rfl
  simp only [Try.f23, Option.getD_some]
  simp (implicitDefEqProofs := false) (decide := true) (maxSteps := 4000000) [ini, g_rbput, rbputC_eq, g_rtake, rtakeC_eq]
  simp only [← List.drop_one, take_rest]
  have hb : (bytesOf s).length = s.size := bytesOf_len s
  have hB := isB_bytesOf s
  refine br_intro (fun h => ?_) fun h => ?_
  · rw [takeB_size (bne_size h)]; exact ⟨rfl, rfl⟩
  have h64 := bne_size' h
  have g0 := isB_getD hB 0
  have g5 := isB_getD hB 5
  have e0 := takeS_one hB (by omega)
  have e5 : (bytesOf s).getD 5 0 ≤ 55 → s.extract 6 (6 + ((bytesOf s).getD 5 0).toNat) = (takeTextS ((bytesOf s).drop 5)).1 := fun hx => by
    rw [takeText_at (x := (bytesOf s).getD 5 0) (by simp) (by omega) (by rw [List.length_drop]; omega) (by omega)]
    conv => lhs; rw [← strOf_bytesOf s]
    rw [extract_strOf, List.drop_drop, bytesOf_strOf hB]
  rw [List.getD_eq_getElem?_getD] at e0 e5 g0 g5
  have w0 : IntKind.i64.wrap ((bytesOf s)[0]?.getD 0) = (bytesOf s)[0]?.getD 0 := i64_in _ (by omega)
  have w5 : IntKind.i64.wrap ((bytesOf s)[5]?.getD 0) = (bytesOf s)[5]?.getD 0 := i64_in _ (by omega)
  rw [rtakeS_eq (isB_drop hB 1), w0, w5]
  obtain ⟨M, hM⟩ : ∃ M : Int, IntKind.i64.wrap (6 + (if (55 : Int) < (bytesOf s)[5]?.getD 0 then (55 : Int) else (bytesOf s)[5]?.getD 0)) = M := ⟨_, rfl⟩
  rw [hM]
  have hM2 : 6 ≤ M ∧ M ≤ 61 ∧ ((bytesOf s)[5]?.getD 0 ≤ 55 → M.toNat = 6 + ((bytesOf s)[5]?.getD 0).toNat) := by
    rw [← hM, i64_in _ (by split <;> omega)]
    split <;> omega
  refine ⟨by omega, by omega, by omega, by omega, by omega, ⟨by omega, by omega⟩, by omega, ?_⟩
  obtain ⟨e, he⟩ : ∃ e : Blk, ((bytesOf s)[0]?.getD 0, (takeS ((bytesOf s).drop 1) 4).1, s.extract 6 M.toNat, ()) = e := ⟨_, rfl⟩
  have hr : (bytesOf s).getD 5 0 ≤ 55 → e = rdB (bytesOf s) := fun hx => by
    rw [List.getD_eq_getElem?_getD] at hx
    rw [← he, hM2.2.2 hx, e5 hx, ← e0]
    rfl
  show br (!(putB (_, _, _, ())).toList == s.toList) _ ((_, _, _, ()) = _ ∧ _)
  rw [he]
  refine br_intro (fun h => ?_) fun h => ?_
  · rw [takeB_eq h64 hr, if_neg (str_ne h)]; exact ⟨rfl, rfl⟩
  · rw [takeB_eq h64 hr, if_pos (str_eq h)]; exact ⟨rfl, rfl⟩
theorem rbtake_ok : ConOK Try.prog 23 rbtakeC := by
  refine con_ok tab_ok (Γ := Γrbtake) (consOK_cons rbput_ok (consOK_cons rtake_ok consOK_nil)) (by kernel_rfl) Try.func23 (by kernel_rfl) ?_
  intro args out h
  obtain ⟨x, e, h1⟩ := conN_inv h
  clear h
  obtain ⟨s, x0⟩ := x
  subst e
  replace h1 : (some ⟨.tup [⟨BlkT, (takeB s).1⟩, ⟨.bool, (takeB s).2⟩], []⟩) = some out := h1
  injection h1 with h1
  subst h1
  exact ⟨by rw [mkArgs_len]; decide, rbtake_ex s⟩
end Go.Proofs.Ytjhnbndfepnpmaa
