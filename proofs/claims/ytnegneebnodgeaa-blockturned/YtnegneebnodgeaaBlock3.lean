/- block: made blocks; what is put comes back. -/
import Derived.Test.YtnegneebnodgeaaBlock2
import Derived.Test.YtnegneebnodgeaaPicksN
set_option maxRecDepth 10000
set_option maxHeartbeats 1000000
set_option linter.unusedSimpArgs false
set_option linter.unusedVariables false
set_option pp.deepTerms.threshold 12
namespace Go.Proofs.Ytnegneebnodgeaa
open Go.Tm Go.IntWalk

theorem rdB_put {e : Blk} (h : mayB e = true) {rest : List Int} (hr : isB rest) : rdB (blkL e ++ rest) = e := by
  obtain ⟨a1, a2, a3, a4, a5⟩ := mayB_iff.1 h
  have ht : isB (((e.2.2.1.size : Int) :: bytesOf e.2.2.1) ++ rest) := isB_append.2 ⟨isB_cons.2 ⟨by omega, isB_bytesOf _⟩, hr⟩
  have e1 : takeS _ (1 : Int) = _ := take_put' (n := 1) (u := e.1) (by decide) (by decide) (by omega) (by omega) (isB_append.2 ⟨isB_bytesN 4 e.2.1, ht⟩)
  have e2 : takeS _ (4 : Int) = _ := take_put' (n := 4) (u := e.2.1) (by decide) (by decide) (by omega) (by omega) ht
  have e3 : takeTextS _ = _ := takeText_text (s := e.2.2.1) (by omega) rest
  rw [blkL_eq (by omega), List.append_assoc, List.append_assoc]
  unfold rdB
  rw [e1, List.drop_left' (bytesN_len 1 _), e2, show (5 : Nat) = 1 + 4 from rfl, ← List.drop_drop, List.drop_left' (bytesN_len 1 _), List.drop_left' (bytesN_len 4 _), e3]
theorem putB_size {e : Blk} (h : mayB e = true) : (putB e).size = 64 := by
  rw [putB_yes h, size_strOf, fullL_len (mayB_iff.1 h).2.2.2.2]
theorem takeB_put {e : Blk} (h : mayB e = true) : takeB (putB e) = (e, true) := by
  have hr : rdB (bytesOf (putB e)) = e := by
    rw [putB_yes h, bytesOf_strOf (isB_fullL (by have := (mayB_iff.1 h).2.2.2.2; omega))]
    exact rdB_put h (isB_rep _)
  rw [takeB_eq (putB_size h) (fun _ => hr.symm), if_pos rfl]
theorem putB_inj {e f : Blk} (he : mayB e = true) (hf : mayB f = true) (h : putB e = putB f) : e = f := by
  have := takeB_put he
  rw [h, takeB_put hf] at this
  exact ((Prod.mk.inj this).1).symm
/-- A block of which a byte behind the text is another. -/
theorem takeB_turned {e : Blk} (h : mayB e = true) {k : Nat} {v : Int} (hk : 6 + e.2.2.1.size ≤ k) (hk2 : k < 64) (hv : 0 ≤ v ∧ v < 256) (hne : v ≠ 0) : takeB (strOf ((fullL e).set k v)) = (noB, false) := by
  have a5 := (mayB_iff.1 h).2.2.2.2
  have hl := blkL_len (e := e) (by omega)
  have hB : isB ((List.replicate (64 - (blkL e).length) 0).set (k - (blkL e).length) v) := fun x hx => by
    rcases List.mem_or_eq_of_mem_set hx with h1 | h1
    · exact isB_rep _ x h1
    · rw [h1]; exact hv
  have hs : (fullL e).set k v = blkL e ++ (List.replicate (64 - (blkL e).length) 0).set (k - (blkL e).length) v := by
    rw [fullL, List.set_append_right _ _ (by omega)]
  have hB2 : isB ((fullL e).set k v) := by rw [hs]; exact isB_append.2 ⟨isB_blkL (by omega), hB⟩
  have hz : (strOf ((fullL e).set k v)).size = 64 := by rw [size_strOf, List.length_set, fullL_len a5]
  have hr : rdB (bytesOf (strOf ((fullL e).set k v))) = e := by
    rw [bytesOf_strOf hB2, hs]
    exact rdB_put h hB
  rw [takeB_eq hz (fun _ => hr.symm), if_neg]
  intro he
  rw [putB_yes h] at he
  have := strOf_inj (isB_fullL (by omega)) hB2 he
  have h1 : ((fullL e).set k v)[k]? = some v := List.getElem?_set_self (by rw [fullL_len a5]; exact hk2)
  have h2 : (fullL e)[k]? = some 0 := by
    rw [fullL, List.getElem?_append_right (by omega), List.getElem?_replicate, if_pos (by omega)]
  rw [← this, h2] at h1
  exact hne (Option.some.inj h1).symm
theorem mayB_no : mayB noB = false := by decide
def textBL : List ByteArray := [⟨#[]⟩, ⟨#[120]⟩, ⟨#[1, 0, 97, 98, 99]⟩, ⟨#[115, 111, 109, 101, 32, 108, 111, 97, 100, 32, 111, 102, 32, 97, 32, 98, 108, 111, 99, 107]⟩]
def blockP (p : Pk) : Blk × Pk := ((1 + (numP p 5).1, (numP (numP p 5).2 300).1, textBL.getD (numP (numP (numP p 5).2 300).2 4).1.toNat ⟨#[]⟩, ()), (numP (numP (numP p 5).2 300).2 4).2)
/-- The contract of (*glacismade.Picks).Block. -/
def pblockC : Con := conN [(.o, .prod (.slice (.int .u8)) (.prod (.int .i64) .unit))] fun (p, _) => if okP p then some ⟨.val ⟨BlkT, (blockP p).1⟩, [⟨PkT, (blockP p).2⟩]⟩ else none
theorem pblockC_eq {p : Ty.den (.prod (.slice (.int .u8)) (.prod (.int .i64) .unit))} : pblockC [.obj ⟨.prod (.slice (.int .u8)) (.prod (.int .i64) .unit), p⟩] = if okP p then some ⟨.val ⟨BlkT, (blockP p).1⟩, [⟨PkT, (blockP p).2⟩]⟩ else none := conN_mk (ks := [(.o, .prod (.slice (.int .u8)) (.prod (.int .i64) .unit))]) (p, ())
def Γpblock : Cons := cons [(16, pnumC)]
theorem pblock_ex (p : Ty.den (.prod (.slice (.int .u8)) (.prod (.int .i64) .unit))) (hr : okP p) : Ex tab Γpblock (Try.f9.body.getD .skip) (EndsF tab Try.f9.results.toList [.obj ⟨.prod (.slice (.int .u8)) (.prod (.int .i64) .unit), p⟩] ⟨.val ⟨BlkT, (blockP p).1⟩, [⟨PkT, (blockP p).2⟩]⟩) (ini [.obj ⟨.prod (.slice (.int .u8)) (.prod (.int .i64) .unit), p⟩]) := by
  have g_pnum : Γpblock 16 = some pnumC := rfl
  simp only [Try.f9, Option.getD_some]
  simp (implicitDefEqProofs := false) (decide := true) (maxSteps := 4000000) [ini, g_pnum, pnumC_eq]
  have o1 := numP_ok hr 5
  have o2 := numP_ok o1 300
  have l1 := numP_lt hr (show (1 : Int) ≤ 5 by decide)
  have l3 := numP_lt o2 (show (1 : Int) ≤ 4 by decide)
  have w : IntKind.i64.wrap (1 + (numP p 5).1) = 1 + (numP p 5).1 := i64_in _ (by omega)
  rw [w]
  refine ⟨hr, o1, o2, l3, l3.2, ?_, rfl⟩
  rw [blockP, List.getD_eq_getElem?_getD]
  rfl
theorem pblock_ok : ConOK Try.prog 9 pblockC := by
  refine con_ok tab_ok (Γ := Γpblock) (consOK_cons pnum_ok consOK_nil) (by kernel_rfl) Try.func9 (by kernel_rfl) ?_
  intro args out h
  obtain ⟨x, e, h1⟩ := conN_inv h
  clear h
  obtain ⟨p, x0⟩ := x
  subst e
  replace h1 : (if okP p then some ⟨.val ⟨BlkT, (blockP p).1⟩, [⟨PkT, (blockP p).2⟩]⟩ else none) = some out := h1
  split at h1
  case isFalse => cases h1
  rename_i hr
  injection h1 with h1
  subst h1
  exact ⟨by rw [mkArgs_len]; decide, pblock_ex p hr⟩
theorem blockP_may {p : Pk} (h : okP p) : mayB (blockP p).1 = true := by
  have o1 := numP_ok h 5
  have o2 := numP_ok o1 300
  have l1 := numP_lt h (show (1 : Int) ≤ 5 by decide)
  have l2 := numP_lt o1 (show (1 : Int) ≤ 300 by decide)
  have l3 := numP_lt o2 (show (1 : Int) ≤ 4 by decide)
  refine mayB_iff.2 ⟨?_, ?_, ?_, ?_, ?_⟩
  · show 1 ≤ 1 + (numP p 5).1; omega
  · show 1 + (numP p 5).1 ≤ 5; omega
  · exact l2.1
  · show (numP (numP p 5).2 300).1 ≤ 1073741824; omega
  · show (textBL.getD (numP (numP (numP p 5).2 300).2 4).1.toNat ⟨#[]⟩).size ≤ 55
    have hk : (numP (numP (numP p 5).2 300).2 4).1.toNat < 4 := by omega
    generalize (numP (numP (numP p 5).2 300).2 4).1.toNat = k at hk
    match k, hk with
    | 0, _ => decide
    | 1, _ => decide
    | 2, _ => decide
    | 3, _ => decide
theorem put_same {e f : Blk} (he : mayB e = true) (hf : mayB f = true) : ((putB e).toList == (putB f).toList) = same BlkT e f := by
  cases h : same BlkT e f with
  | true => rw [same_eq (by decide) h]; simp
  | false =>
    rw [beq_eq_false_iff_ne]
    intro h2
    rw [putB_inj he hf (ba_inj h2), same_refl (by decide)] at h
    cases h
def b0 : Blk := (1, 258, ⟨#[97, 98]⟩, ())
theorem bb_may : mayB b0 = true := by decide +kernel
theorem bb_zero : takeB (strOf (List.replicate 64 0)) = (noB, false) := by
  refine if_neg fun h => ?_
  have := (putB_fifth h.2 h.1).2.1
  rw [bytesOf_strOf (isB_rep 64)] at this
  revert this
  decide +kernel
/-- The contract of glacislaw4.begun. -/
def bbegunC : Con := conN [] fun _ => some ⟨.val ⟨.bool, true⟩, []⟩
theorem bbegunC_eq  : bbegunC [] = some ⟨.val ⟨.bool, true⟩, []⟩ := conN_mk (ks := []) (())
def Γbbegun : Cons := cons [(12, bputC), (14, btakeC), (10, bmayC)]
theorem bbegun_ex  : Ex tab Γbbegun (Try.f7.body.getD .skip) (EndsF tab Try.f7.results.toList [] ⟨.val ⟨.bool, true⟩, []⟩) (ini []) := by
  have g_bput : Γbbegun 12 = some bputC := rfl
  have g_btake : Γbbegun 14 = some btakeC := rfl
  have g_bmay : Γbbegun 10 = some bmayC := rfl
  simp only [Try.f7, Option.getD_some]
  simp (implicitDefEqProofs := false) (decide := true) (maxSteps := 4000000) [ini, g_bput, bputC_eq, g_btake, btakeC_eq, g_bmay, bmayC_eq]
  have h : takeB (putB (1, 258, ⟨#[97, 98]⟩, ())) = _ := takeB_put bb_may
  rw [h]
  exact same_refl (by decide) _
theorem bbegun_ok : ConOK Try.prog 7 bbegunC := by
  refine con_ok tab_ok (Γ := Γbbegun) (consOK_cons bput_ok (consOK_cons btake_ok (consOK_cons bmay_ok consOK_nil))) (by kernel_rfl) Try.func7 (by kernel_rfl) ?_
  intro args out h
  obtain ⟨x, e, h1⟩ := conN_inv h
  clear h
  subst e
  replace h1 : (some ⟨.val ⟨.bool, true⟩, []⟩) = some out := h1
  injection h1 with h1
  subst h1
  exact ⟨by rw [mkArgs_len]; decide, bbegun_ex⟩
end Go.Proofs.Ytnegneebnodgeaa
