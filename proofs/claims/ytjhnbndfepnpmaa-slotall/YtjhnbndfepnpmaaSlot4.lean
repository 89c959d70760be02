/- slot: made texts of slots; what is put comes back; what is asked first. -/
import Derived.Test.YtjhnbndfepnpmaaSlot3
set_option maxRecDepth 10000
set_option maxHeartbeats 1000000
set_option linter.unusedSimpArgs false
set_option linter.unusedVariables false
set_option pp.deepTerms.threshold 12
namespace Go.Proofs.Ytjhnbndfepnpmaa
open Go.Tm Go.IntWalk

theorem rdSl_put {e : Sl} (h : maySl e = true) : rdSl (blkOf e) = e := by
  obtain ⟨h1, h2, h3, h4, h5⟩ := maySl_iff.1 h
  have hz : (strOf (fourL e)).size = 16 := by rw [size_strOf, fourL_len]
  have hb : bytesOf (strOf (fourL e)) = fourL e := bytesOf_strOf (isB_fourL e)
  have b4 := isB_bytesN 4 e.2.2.2.2.1
  have b3 := isB_append.2 ⟨isB_bytesN 4 e.2.2.2.1, b4⟩
  have b2 := isB_append.2 ⟨isB_bytesN 4 e.2.2.1, b3⟩
  have e1 : takeS _ (4 : Int) = _ := take_put' (n := 4) (u := e.2.1) (by decide) (by decide) (by omega) (by omega) b2
  have e2 : takeS _ (4 : Int) = _ := take_put' (n := 4) (u := e.2.2.1) (by decide) (by decide) (by omega) (by omega) b3
  have e3 : takeS _ (4 : Int) = _ := take_put' (n := 4) (u := e.2.2.2.1) (by decide) (by decide) (by omega) (by omega) b4
  have e4 : takeS (bytesN 4 e.2.2.2.2.1 ++ []) (4 : Int) = _ := take_put' (n := 4) (u := e.2.2.2.2.1) (by decide) (by decide) (by omega) (by omega) isB_nil
  rw [List.append_nil] at e4
  have d1 : (fourL e).drop 4 = bytesN 4 e.2.2.1 ++ (bytesN 4 e.2.2.2.1 ++ bytesN 4 e.2.2.2.2.1) := by rw [fourL_eq]; exact List.drop_left' (bytesN_len 4 _)
  have d2 : (fourL e).drop 8 = bytesN 4 e.2.2.2.1 ++ bytesN 4 e.2.2.2.2.1 := by
    rw [show (8 : Nat) = 4 + 4 from rfl, ← List.drop_drop, d1]; exact List.drop_left' (bytesN_len 4 _)
  have d3 : (fourL e).drop 12 = bytesN 4 e.2.2.2.2.1 := by
    rw [show (12 : Nat) = 8 + 4 from rfl, ← List.drop_drop, d2]; exact List.drop_left' (bytesN_len 4 _)
  have a0 : atT (strOf (fourL e)) 0 = e.2.1 := by
    rw [atT, hz, hb, if_pos (by decide)]
    show (takeS (fourL e) 4).1 = _
    rw [fourL_eq, e1]
  have a1 : atT (strOf (fourL e)) 1 = e.2.2.1 := by
    rw [atT, hz, hb, if_pos (by decide)]
    show (takeS ((fourL e).drop 4) 4).1 = _
    rw [d1, e2]
  have a2 : atT (strOf (fourL e)) 2 = e.2.2.2.1 := by
    rw [atT, hz, hb, if_pos (by decide)]
    show (takeS ((fourL e).drop 8) 4).1 = _
    rw [d2, e3]
  have a3 : atT (strOf (fourL e)) 3 = e.2.2.2.2.1 := by
    rw [atT, hz, hb, if_pos (by decide)]
    show (takeS ((fourL e).drop 12) 4).1 = _
    rw [d3, e4]
  show (e.1, atT (strOf (fourL e)) 0, atT (strOf (fourL e)) 1, atT (strOf (fourL e)) 2, atT (strOf (fourL e)) 3, ()) = e
  rw [a0, a1, a2, a3]
theorem takeSl_put {e : Sl} (h : maySl e = true) : takeSl (putSl e) = (e, true) := by
  have ht : takeB (putSl e) = (blkOf e, true) := by rw [putSl_yes h]; exact takeB_put (blkOf_may h)
  have hr : rdSl (takeB (putSl e)).1 = e := by rw [ht]; exact rdSl_put h
  rw [takeSl_good (by rw [ht]) (by rw [hr]), hr]
theorem takeSl_size {s : ByteArray} (h : ¬ s.size = 64) : takeSl s = (noSl, false) := takeSl_no (by rw [takeB_size h])
def slotAt (l : List Int) (k : Nat) : ByteArray := putSl (IntKind.i64.wrap (Int.tmod (l[5 * k]?.getD 0) 9), IntKind.i64.wrap (l[5 * k + 1]?.getD 0), IntKind.i64.wrap (l[5 * k + 2]?.getD 0), IntKind.i64.wrap (l[5 * k + 3]?.getD 0), IntKind.i64.wrap (Int.tmod (l[5 * k + 4]?.getD 0) 70), ())
def slotsL (l : List Int) : List ByteArray := (List.range (l.length / 5)).map (slotAt l)
/-- The contract of glacislaw5.slots. -/
def slotsC : Con := conN [(.v, .slice (.int .u16))] fun (l, _) => if l.length ≤ 1000 then some ⟨.own .str (slotsL l), []⟩ else none
theorem slotsC_eq {l : List Int} : slotsC [.val ⟨.slice (.int .u16), l⟩] = if l.length ≤ 1000 then some ⟨.own .str (slotsL l), []⟩ else none := conN_mk (ks := [(.v, .slice (.int .u16))]) (l, ())
def Γslots : Cons := cons [(10, rsputC)]
theorem slots_ex (l : List Int) (hr : l.length ≤ 1000) : Ex tab Γslots (Try.f11.body.getD .skip) (EndsF tab Try.f11.results.toList [.val ⟨.slice (.int .u16), l⟩] ⟨.own .str (slotsL l), []⟩) (ini [.val ⟨.slice (.int .u16), l⟩]) := by
  have g_rsput : Γslots 10 = some rsputC := rfl
  simp only [Try.f11, Option.getD_some]
  simp (implicitDefEqProofs := false) (decide := true) (maxSteps := 4000000) [ini, g_rsput, rsputC_eq]
  refine ex_loopN 3 .str rfl (σ := Nat × Nat) [3, 4, 5, 6, 7, 8, 9, 10, 11, 12, 13, 14, 15, 16, 17, 18, 19, 20, 21, 22, 23, 24, 25, 26, 27, 28, 29, 30, 31, 32, 33, 34, 35, 36, 37, 38, 39, 40, 41, 42, 43, 44, 45, 46, 47, 48, 49] (fun a => [(4, .val (.int .i64) ((5 * a.1 : Nat) : Int)), (3, .own a.2 .str ((List.range a.1).map (slotAt l)))]) (fun a => 5 * a.1 ≤ l.length) (fun a => l.length - 5 * a.1) (fun m => ⟨(0, m), by simp, hc rfl (hc rfl hn)⟩) ?_
  rintro m j ⟨i, q⟩ hi
  have hi : 5 * i ≤ l.length := hi
  simp (implicitDefEqProofs := false) (decide := true) [ini, g_rsput, rsputC_eq]
  intro _
  have w1 : IntKind.i64.wrap (5 * (i : Int) + 1) = ((5 * i + 1 : Nat) : Int) := w_nat (by omega) (by omega)
  have w2 : IntKind.i64.wrap (5 * (i : Int) + 2) = ((5 * i + 2 : Nat) : Int) := w_nat (by omega) (by omega)
  have w3 : IntKind.i64.wrap (5 * (i : Int) + 3) = ((5 * i + 3 : Nat) : Int) := w_nat (by omega) (by omega)
  have w4 : IntKind.i64.wrap (5 * (i : Int) + 4) = ((5 * i + 4 : Nat) : Int) := w_nat (by omega) (by omega)
  have w5 : IntKind.i64.wrap (5 * (i : Int) + 5) = ((5 * i + 5 : Nat) : Int) := w_nat (by omega) (by omega)
  have w0 : (5 * (i : Int)).toNat = 5 * i := by omega
  rw [w1, w2, w3, w4, w5, w0, Int.toNat_natCast, Int.toNat_natCast, Int.toNat_natCast, Int.toNat_natCast]
  refine br_dec (fun hlt => ?_) fun hge => ?_
  · refine ⟨⟨by omega, by omega⟩, ⟨by omega, by omega⟩, ⟨by omega, by omega⟩, ⟨by omega, by omega⟩, ⟨by omega, by omega⟩, by omega, i + 1, by omega, by omega, (show ((5 * i + 5 : Nat) : Int) = 5 * ((i + 1 : Nat) : Int) by omega), ?_⟩
    rw [List.range_succ, List.map_append]
    rfl
  · rw [slotsL, show i = l.length / 5 by omega]
theorem slots_ok : ConOK Try.prog 11 slotsC := by
  refine con_ok tab_ok (Γ := Γslots) (consOK_cons rsput_ok consOK_nil) (by kernel_rfl) Try.func11 (by kernel_rfl) ?_
  intro args out h
  obtain ⟨x, e, h1⟩ := conN_inv h
  clear h
  obtain ⟨l, x0⟩ := x
  subst e
  replace h1 : (if l.length ≤ 1000 then some ⟨.own .str (slotsL l), []⟩ else none) = some out := h1
  split at h1
  case isFalse => cases h1
  rename_i hr
  injection h1 with h1
  subst h1
  exact ⟨by rw [mkArgs_len]; decide, slots_ex l hr⟩
def s0 : Sl := (3, 2, 9, 1, 5, ())
theorem sb_may : maySl s0 = true := by decide +kernel
theorem sb_take : takeSl (putSl (3, 2, 9, 1, 5, ())) = (s0, true) := takeSl_put sb_may
theorem sb_nw : nw [⟨#[]⟩, putSl (3, 2, 9, 1, 5, ())] = (s0, true) := by
  unfold nw
  have h0 : nwStep (noSl, false) ⟨#[]⟩ = (noSl, false) := nw_no (by rw [takeSl_size (by decide)])
  rw [List.foldl_cons, List.foldl_cons, List.foldl_nil, h0, nw_first (by rw [sb_take]) rfl, sb_take]
/-- The contract of glacislaw5.begun. -/
def sbegunC : Con := conN [] fun _ => some ⟨.val ⟨.bool, true⟩, []⟩
theorem sbegunC_eq  : sbegunC [] = some ⟨.val ⟨.bool, true⟩, []⟩ := conN_mk (ks := []) (())
def Γsbegun : Cons := cons [(9, sputC), (12, stakeC), (14, snewestC), (7, smayC)]
theorem sbegun_ex  : Ex tab Γsbegun (Try.f6.body.getD .skip) (EndsF tab Try.f6.results.toList [] ⟨.val ⟨.bool, true⟩, []⟩) (ini []) := by
  have g_sput : Γsbegun 9 = some sputC := rfl
  have g_stake : Γsbegun 12 = some stakeC := rfl
  have g_snewest : Γsbegun 14 = some snewestC := rfl
  have g_smay : Γsbegun 7 = some smayC := rfl
  simp only [Try.f6, Option.getD_some]
  simp (implicitDefEqProofs := false) (decide := true) (maxSteps := 4000000) [ini, g_sput, sputC_eq, g_stake, stakeC_eq, g_snewest, snewestC_eq, g_smay, smayC_eq, sb_take, sb_nw]
theorem sbegun_ok : ConOK Try.prog 6 sbegunC := by
  refine con_ok tab_ok (Γ := Γsbegun) (consOK_cons sput_ok (consOK_cons stake_ok (consOK_cons snewest_ok (consOK_cons smay_ok consOK_nil)))) (by kernel_rfl) Try.func6 (by kernel_rfl) ?_
  intro args out h
  obtain ⟨x, e, h1⟩ := conN_inv h
  clear h
  subst e
  replace h1 : (some ⟨.val ⟨.bool, true⟩, []⟩) = some out := h1
  injection h1 with h1
  subst h1
  exact ⟨by rw [mkArgs_len]; decide, sbegun_ex⟩
end Go.Proofs.Ytjhnbndfepnpmaa
