/- block: what may be, what is put, what is taken. -/
import Derived.Test.YtjhnbndfepnpmaaPCom
import Derived.Test.YtjhnbndfepnpmaaLibRepeat
set_option maxRecDepth 10000
set_option maxHeartbeats 1000000
set_option linter.unusedSimpArgs false
set_option linter.unusedVariables false
set_option pp.deepTerms.threshold 12
namespace Go.Proofs.Ytjhnbndfepnpmaa
open Go.Tm Go.IntWalk

abbrev BlkT : Ty := .prod (.int .i64) (.prod (.int .i64) (.prod .str .unit))
abbrev Blk : Type := Int × Int × ByteArray × Unit
def mayB (e : Blk) : Bool := decide (1 ≤ e.1) && decide (e.1 ≤ 5) && decide (0 ≤ e.2.1) && decide (e.2.1 ≤ 1073741824) && decide ((e.2.2.1.size : Int) ≤ 55)
/-- What stands ahead of the zeros. -/
def blkL (e : Blk) : List Int := textS (putS (putS [] 1 [e.1]) 4 [e.2.1]) e.2.2.1
def fullL (e : Blk) : List Int := blkL e ++ List.replicate (64 - (blkL e).length) 0
def putB (e : Blk) : ByteArray := if mayB e = true then strOf (fullL e) else no
theorem mayB_iff {e : Blk} : mayB e = true ↔ 1 ≤ e.1 ∧ e.1 ≤ 5 ∧ 0 ≤ e.2.1 ∧ e.2.1 ≤ 1073741824 ∧ e.2.2.1.size ≤ 55 := by
  simp only [mayB, Bool.and_eq_true, decide_eq_true_eq]
  omega
theorem blkL_eq {e : Blk} (h : e.2.2.1.size ≤ 255) : blkL e = bytesN 1 e.1 ++ (bytesN 4 e.2.1 ++ ((e.2.2.1.size : Int) :: bytesOf e.2.2.1)) := by
  unfold blkL
  rw [textS_small h]
  simp [putS]
theorem blkL_len {e : Blk} (h : e.2.2.1.size ≤ 255) : (blkL e).length = 6 + e.2.2.1.size := by
  rw [blkL_eq h]
  simp [bytesN_len, bytesOf_len]
  omega
theorem fullL_len {e : Blk} (h : e.2.2.1.size ≤ 55) : (fullL e).length = 64 := by
  have := blkL_len (e := e) (by omega)
  simp [fullL]
  omega
theorem rep_zero : ∀ n : Nat, bl (repB ⟨#[0]⟩ n) = List.replicate n (UInt8.ofNat (0 : Int).toNat)
  | 0 => rfl
  | n + 1 => by
    rw [List.replicate_succ, ← rep_zero n]
    rfl
theorem strOf_rep (L : List Int) (n : Nat) : strOf L ++ repB ⟨#[0]⟩ n = strOf (L ++ List.replicate n 0) := by
  apply bl_inj
  rw [bl_append, bl_strOf, bl_strOf, List.map_append, List.map_replicate]
  congr 1
  exact rep_zero n
theorem putB_no {e : Blk} (h : mayB e = false) : putB e = no := if_neg (by rw [h]; decide)
theorem putB_yes {e : Blk} (h : mayB e = true) : putB e = strOf (fullL e) := if_pos h
theorem repB_size (n : Nat) : (repB ⟨#[0]⟩ n).size = n := by
  show (bl (repB ⟨#[0]⟩ n)).length = n
  rw [rep_zero]
  simp
/-- The contract of block.May. -/
def bmayC : Con := conN [(.v, .prod (.int .i64) (.prod (.int .i64) (.prod .str .unit)))] fun (e, _) => some ⟨.val ⟨.bool, mayB e⟩, []⟩
theorem bmayC_eq {e : Ty.den (.prod (.int .i64) (.prod (.int .i64) (.prod .str .unit)))} : bmayC [.val ⟨.prod (.int .i64) (.prod (.int .i64) (.prod .str .unit)), e⟩] = some ⟨.val ⟨.bool, mayB e⟩, []⟩ := conN_mk (ks := [(.v, .prod (.int .i64) (.prod (.int .i64) (.prod .str .unit)))]) (e, ())
def Γbmay : Cons := cons []
theorem bmay_ex (e : Ty.den (.prod (.int .i64) (.prod (.int .i64) (.prod .str .unit)))) : Ex tab Γbmay (Try.f28.body.getD .skip) (EndsF tab Try.f28.results.toList [.val ⟨.prod (.int .i64) (.prod (.int .i64) (.prod .str .unit)), e⟩] ⟨.val ⟨.bool, mayB e⟩, []⟩) (ini [.val ⟨.prod (.int .i64) (.prod (.int .i64) (.prod .str .unit)), e⟩]) := by
  simp only [Try.f28, Option.getD_some]
  simp (implicitDefEqProofs := false) (decide := true) (maxSteps := 4000000) [ini]
  have hx : mayB e = true ↔ _ := mayB_iff
  refine br_dec (fun h1 => br_dec (fun h2 => br_dec (fun h3 => br_dec (fun h4 => ?_) fun h4 => ?_) fun h3 => ?_) fun h2 => ?_) fun h1 => ?_
  · rw [mayB, decide_eq_true h1, decide_eq_true h2, decide_eq_true h3, decide_eq_true h4]; rfl
  all_goals
    cases hm : mayB e with
    | false => rfl
    | true => obtain ⟨a1, a2, a3, a4, a5⟩ := hx.1 hm; contradiction
theorem bmay_ok : ConOK Try.prog 28 bmayC := by
  refine con_ok tab_ok (Γ := Γbmay) consOK_nil (by kernel_rfl) Try.func28 (by kernel_rfl) ?_
  intro args out h
  obtain ⟨x, e, h1⟩ := conN_inv h
  clear h
  obtain ⟨e, x0⟩ := x
  subst e
  replace h1 : (some ⟨.val ⟨.bool, mayB e⟩, []⟩) = some out := h1
  injection h1 with h1
  subst h1
  exact ⟨by rw [mkArgs_len]; decide, bmay_ex e⟩
/-- The contract of glacisref1.MayBlock. -/
def rbmayC : Con := conN [(.v, .prod (.int .i64) (.prod (.int .i64) (.prod .str .unit)))] fun (e, _) => some ⟨.val ⟨.bool, mayB e⟩, []⟩
theorem rbmayC_eq {e : Ty.den (.prod (.int .i64) (.prod (.int .i64) (.prod .str .unit)))} : rbmayC [.val ⟨.prod (.int .i64) (.prod (.int .i64) (.prod .str .unit)), e⟩] = some ⟨.val ⟨.bool, mayB e⟩, []⟩ := conN_mk (ks := [(.v, .prod (.int .i64) (.prod (.int .i64) (.prod .str .unit)))]) (e, ())
def Γrbmay : Cons := cons []
theorem rbmay_ex (e : Ty.den (.prod (.int .i64) (.prod (.int .i64) (.prod .str .unit)))) : Ex tab Γrbmay (Try.f25.body.getD .skip) (EndsF tab Try.f25.results.toList [.val ⟨.prod (.int .i64) (.prod (.int .i64) (.prod .str .unit)), e⟩] ⟨.val ⟨.bool, mayB e⟩, []⟩) (ini [.val ⟨.prod (.int .i64) (.prod (.int .i64) (.prod .str .unit)), e⟩]) := by
  simp only [Try.f25, Option.getD_some]
  simp (implicitDefEqProofs := false) (decide := true) (maxSteps := 4000000) [ini]
  have hx : mayB e = true ↔ _ := mayB_iff
  refine br_dec (fun h1 => br_dec (fun h2 => br_dec (fun h3 => br_dec (fun h4 => ?_) fun h4 => ?_) fun h3 => ?_) fun h2 => ?_) fun h1 => ?_
  · rw [mayB, decide_eq_true h1, decide_eq_true h2, decide_eq_true h3, decide_eq_true h4]; rfl
  all_goals
    cases hm : mayB e with
    | false => rfl
    | true => obtain ⟨a1, a2, a3, a4, a5⟩ := hx.1 hm; contradiction
theorem rbmay_ok : ConOK Try.prog 25 rbmayC := by
  refine con_ok tab_ok (Γ := Γrbmay) consOK_nil (by kernel_rfl) Try.func25 (by kernel_rfl) ?_
  intro args out h
  obtain ⟨x, e, h1⟩ := conN_inv h
  clear h
  obtain ⟨e, x0⟩ := x
  subst e
  replace h1 : (some ⟨.val ⟨.bool, mayB e⟩, []⟩) = some out := h1
  injection h1 with h1
  subst h1
  exact ⟨by rw [mkArgs_len]; decide, rbmay_ex e⟩
/-- The contract of block.Put. -/
def bputC : Con := conN [(.v, .prod (.int .i64) (.prod (.int .i64) (.prod .str .unit)))] fun (e, _) => some ⟨.val ⟨.str, putB e⟩, []⟩
theorem bputC_eq {e : Ty.den (.prod (.int .i64) (.prod (.int .i64) (.prod .str .unit)))} : bputC [.val ⟨.prod (.int .i64) (.prod (.int .i64) (.prod .str .unit)), e⟩] = some ⟨.val ⟨.str, putB e⟩, []⟩ := conN_mk (ks := [(.v, .prod (.int .i64) (.prod (.int .i64) (.prod .str .unit)))]) (e, ())
def Γbput : Cons := cons [(28, bmayC), (19, putC), (29, textC), (30, repeat6C)]
theorem bput_ex (e : Ty.den (.prod (.int .i64) (.prod (.int .i64) (.prod .str .unit)))) : Ex tab Γbput (Try.f18.body.getD .skip) (EndsF tab Try.f18.results.toList [.val ⟨.prod (.int .i64) (.prod (.int .i64) (.prod .str .unit)), e⟩] ⟨.val ⟨.str, putB e⟩, []⟩) (ini [.val ⟨.prod (.int .i64) (.prod (.int .i64) (.prod .str .unit)), e⟩]) := by
  have g_bmay : Γbput 28 = some bmayC := rfl
  have g_put : Γbput 19 = some putC := rfl
  have g_text : Γbput 29 = some textC := rfl
  have g_repeat6 : Γbput 30 = some repeat6C := rfl
  simp only [Try.f18, Option.getD_some]
  simp (implicitDefEqProofs := false) (decide := true) (maxSteps := 4000000) [ini, g_bmay, bmayC_eq, g_put, putC_eq, g_text, textC_eq, g_repeat6, repeat6C_eq]
  refine br_intro (fun h => (putB_no (not_t h)).symm) fun h => ?_
  have hm : mayB e = true := not_f h
  obtain ⟨a1, a2, a3, a4, a5⟩ := mayB_iff.1 hm
  have hl := blkL_len (e := e) (by omega)
  have p1 := putS_len [] 1 [e.1]
  have p2 := putS_len (putS [] 1 [e.1]) 4 [e.2.1]
  simp only [List.length_cons, List.length_nil] at p1 p2
  have a5 : ByteArray.size e.2.2.1 ≤ 55 := a5
  have w : IntKind.i64.wrap (64 - ((blkL e).length : Int)) = ((64 - (blkL e).length : Nat) : Int) := by rw [i64_in _ (by omega)]; omega
  rw [putB_yes hm]
  show _ ∧ _ ∧ (0 ≤ IntKind.i64.wrap (64 - ((blkL e).length : Int)) ∧ IntKind.i64.wrap (64 - ((blkL e).length : Int)) ≤ 1000000000) ∧ ((strOf (blkL e)).size : Int) + ((repB ⟨#[0]⟩ (IntKind.i64.wrap (64 - ((blkL e).length : Int))).toNat).size : Int) ≤ 9223372036854775807 ∧
    strOf (blkL e) ++ repB ⟨#[0]⟩ (IntKind.i64.wrap (64 - ((blkL e).length : Int))).toNat = _
  rw [w, Int.toNat_natCast, repB_size, size_strOf, strOf_rep]
  exact ⟨by omega, by omega, ⟨by omega, by omega⟩, by omega, rfl⟩
theorem bput_ok : ConOK Try.prog 18 bputC := by
  refine con_ok tab_ok (Γ := Γbput) (consOK_cons bmay_ok (consOK_cons put_ok (consOK_cons text_ok (consOK_cons repeat6_ok consOK_nil)))) (by kernel_rfl) Try.func18 (by kernel_rfl) ?_
  intro args out h
  obtain ⟨x, e, h1⟩ := conN_inv h
  clear h
  obtain ⟨e, x0⟩ := x
  subst e
  replace h1 : (some ⟨.val ⟨.str, putB e⟩, []⟩) = some out := h1
  injection h1 with h1
  subst h1
  exact ⟨by rw [mkArgs_len]; decide, bput_ex e⟩
/-- The contract of glacisref1.PutBlock. -/
def rbputC : Con := conN [(.v, .prod (.int .i64) (.prod (.int .i64) (.prod .str .unit)))] fun (e, _) => some ⟨.val ⟨.str, putB e⟩, []⟩
theorem rbputC_eq {e : Ty.den (.prod (.int .i64) (.prod (.int .i64) (.prod .str .unit)))} : rbputC [.val ⟨.prod (.int .i64) (.prod (.int .i64) (.prod .str .unit)), e⟩] = some ⟨.val ⟨.str, putB e⟩, []⟩ := conN_mk (ks := [(.v, .prod (.int .i64) (.prod (.int .i64) (.prod .str .unit)))]) (e, ())
def Γrbput : Cons := cons [(25, rbmayC), (27, oneC), (26, rtextC)]
theorem rbput_ex (e : Ty.den (.prod (.int .i64) (.prod (.int .i64) (.prod .str .unit)))) : Ex tab Γrbput (Try.f16.body.getD .skip) (EndsF tab Try.f16.results.toList [.val ⟨.prod (.int .i64) (.prod (.int .i64) (.prod .str .unit)), e⟩] ⟨.val ⟨.str, putB e⟩, []⟩) (ini [.val ⟨.prod (.int .i64) (.prod (.int .i64) (.prod .str .unit)), e⟩]) := by
  have g_rbmay : Γrbput 25 = some rbmayC := rfl
  have g_one : Γrbput 27 = some oneC := rfl
  have g_rtext : Γrbput 26 = some rtextC := rfl
  simp only [Try.f16, Option.getD_some]
  simp (implicitDefEqProofs := false) (decide := true) (maxSteps := 4000000) [ini, g_rbmay, rbmayC_eq, g_one, oneC_eq, g_rtext, rtextC_eq]
  refine br_intro (fun h => (putB_no (not_t h)).symm) fun h => ?_
  have hm : mayB e = true := not_f h
  obtain ⟨a1, a2, a3, a4, a5⟩ := mayB_iff.1 hm
  have hl := blkL_len (e := e) (by omega)
  have p1 := putS_len [] 1 [e.1]
  have p2 := putS_len (putS [] 1 [e.1]) 4 [e.2.1]
  simp only [List.length_cons, List.length_nil] at p1 p2
  have a5 : ByteArray.size e.2.2.1 ≤ 55 := a5
  have w : IntKind.i64.wrap (64 - ((blkL e).length : Int)) = ((64 - (blkL e).length : Nat) : Int) := by rw [i64_in _ (by omega)]; omega
  rw [putB_yes hm]
  show _ ∧ _ ∧ (_ → 0 ≤ IntKind.i64.wrap (64 - ((blkL e).length : Int)) ∧ (blkL e).length + (IntKind.i64.wrap (64 - ((blkL e).length : Int))).toNat ≤ 140737488355328 ∧
    strOf (blkL e ++ List.replicate (IntKind.i64.wrap (64 - ((blkL e).length : Int))).toNat 0) = _)
  rw [w, Int.toNat_natCast]
  exact ⟨by omega, by omega, fun _ => ⟨by omega, by omega, rfl⟩⟩
theorem rbput_ok : ConOK Try.prog 16 rbputC := by
  refine con_ok tab_ok (Γ := Γrbput) (consOK_cons rbmay_ok (consOK_cons one_ok (consOK_cons rtext_ok consOK_nil))) (by kernel_rfl) Try.func16 (by kernel_rfl) ?_
  intro args out h
  obtain ⟨x, e, h1⟩ := conN_inv h
  clear h
  obtain ⟨e, x0⟩ := x
  subst e
  replace h1 : (some ⟨.val ⟨.str, putB e⟩, []⟩) = some out := h1
  injection h1 with h1
  subst h1
  exact ⟨by rw [mkArgs_len]; decide, rbput_ex e⟩
end Go.Proofs.Ytjhnbndfepnpmaa
