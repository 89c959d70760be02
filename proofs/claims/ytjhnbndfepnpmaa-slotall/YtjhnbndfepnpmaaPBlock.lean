/- Blocks: what is put comes back. -/
import Derived.Test.YtjhnbndfepnpmaaBlock2
set_option maxRecDepth 10000
set_option maxHeartbeats 1000000
set_option linter.unusedSimpArgs false
set_option linter.unusedVariables false
namespace Go.Proofs.Ytjhnbndfepnpmaa
open Go.Tm Go.IntWalk

theorem rdB_put {e : Blk} (h : mayB e = true) {rest : List Int} (hr : isB rest) : rdB (blkL e ++ rest) = e := by
  obtain ⟨a1, a2, a3, a4, a5⟩ := mayB_iff.1 h
  have ht : isB (((e.2.2.1.size : Int) :: bytesOf e.2.2.1) ++ rest) := isB_append.2 ⟨isB_cons.2 ⟨by omega, isB_bytesOf _⟩, hr⟩
  have e1 : takeS _ (1 : Int) = _ := take_put' (n := 1) (u := e.1) (by decide) (by decide) (by omega) (by omega) (isB_append.2 ⟨isB_bytesN 4 e.2.1, ht⟩)
  have e2 : takeS _ (4 : Int) = _ := take_put' (n := 4) (u := e.2.1) (by decide) (by decide) (by omega) (by omega) ht
  have e3 : takeTextS _ = _ := takeText_text (s := e.2.2.1) (by omega) rest
  rw [blkL_eq (by omega), List.append_assoc, List.append_assoc]
  unfold rdB
  rw [e1, List.drop_left' (bytesN_len 1 _), e2, show (5 : Nat) = 1 + 4 from rfl, ← List.drop_drop, List.drop_left' (bytesN_len 1 _), List.drop_left' (bytesN_len 4 _), e3]
theorem putB_size {e : Blk} (h : mayB e = true) : (putB e).size = 64 := by
  rw [putB_yes h, size_strOf, fullL_len (mayB_iff.1 h).2.2.2.2]
theorem takeB_put {e : Blk} (h : mayB e = true) : takeB (putB e) = (e, true) := by
  have hr : rdB (bytesOf (putB e)) = e := by
    rw [putB_yes h, bytesOf_strOf (isB_fullL (by have := (mayB_iff.1 h).2.2.2.2; omega))]
    exact rdB_put h (isB_rep _)
  rw [takeB_eq (putB_size h) (fun _ => hr.symm), if_pos rfl]
theorem putB_inj {e f : Blk} (he : mayB e = true) (hf : mayB f = true) (h : putB e = putB f) : e = f := by
  have := takeB_put he
  rw [h, takeB_put hf] at this
  exact ((Prod.mk.inj this).1).symm
/-- A block of which a byte behind the text is another. -/
theorem takeB_turned {e : Blk} (h : mayB e = true) {k : Nat} {v : Int} (hk : 6 + e.2.2.1.size ≤ k) (hk2 : k < 64) (hv : 0 ≤ v ∧ v < 256) (hne : v ≠ 0) : takeB (strOf ((fullL e).set k v)) = (noB, false) := by
  have a5 := (mayB_iff.1 h).2.2.2.2
  have hl := blkL_len (e := e) (by omega)
  have hB : isB ((List.replicate (64 - (blkL e).length) 0).set (k - (blkL e).length) v) := fun x hx => by
    rcases List.mem_or_eq_of_mem_set hx with h1 | h1
    · exact isB_rep _ x h1
    · rw [h1]; exact hv
  have hs : (fullL e).set k v = blkL e ++ (List.replicate (64 - (blkL e).length) 0).set (k - (blkL e).length) v := by
    rw [fullL, List.set_append_right _ _ (by omega)]
  have hB2 : isB ((fullL e).set k v) := by rw [hs]; exact isB_append.2 ⟨isB_blkL (by omega), hB⟩
  have hz : (strOf ((fullL e).set k v)).size = 64 := by rw [size_strOf, List.length_set, fullL_len a5]
  have hr : rdB (bytesOf (strOf ((fullL e).set k v))) = e := by
    rw [bytesOf_strOf hB2, hs]
    exact rdB_put h hB
  rw [takeB_eq hz (fun _ => hr.symm), if_neg]
  intro he
  rw [putB_yes h] at he
  have := strOf_inj (isB_fullL (by omega)) hB2 he
  have h1 : ((fullL e).set k v)[k]? = some v := List.getElem?_set_self (by rw [fullL_len a5]; exact hk2)
  have h2 : (fullL e)[k]? = some 0 := by
    rw [fullL, List.getElem?_append_right (by omega), List.getElem?_replicate, if_pos (by omega)]
  rw [← this, h2] at h1
  exact hne (Option.some.inj h1).symm
theorem mayB_no : mayB noB = false := by decide
theorem put_same {e f : Blk} (he : mayB e = true) (hf : mayB f = true) : ((putB e).toList == (putB f).toList) = same BlkT e f := by
  cases h : same BlkT e f with
  | true => rw [same_eq (by decide) h]; simp
  | false =>
    rw [beq_eq_false_iff_ne]
    intro h2
    rw [putB_inj he hf (ba_inj h2), same_refl (by decide)] at h
    cases h
end Go.Proofs.Ytjhnbndfepnpmaa
