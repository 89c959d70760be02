/- dir: one name more, one less, by the program. -/
import Derived.Test.YtfjbfopomepnoaaDir3
import Derived.Test.YtfjbfopomepnoaaDirIns
set_option maxRecDepth 10000
set_option maxHeartbeats 1000000
set_option linter.unusedSimpArgs false
set_option linter.unusedVariables false
set_option pp.deepTerms.threshold 14
namespace Go.Proofs.Ytfjbfopomepnoaa
open Go.Tm Go.IntWalk
/-- The contract of slices.Delete[[]api.Entry,api.Entry]. -/
def ddelC : Con := conR [(.r, EntT), (.v, .int .i64), (.v, .int .i64)] fun (xs, i, j, _) => if 0 ≤ i ∧ i < (xs.length : Int) ∧ j = i + 1 then some ⟨.own EntT (xs.take i.toNat ++ xs.drop (i.toNat + 1)), []⟩ else none
theorem ddelC_eq {xs : List (Ty.den (EntT))} {i : Int} {j : Int} : ddelC [.row (EntT) xs, .val ⟨.int .i64, i⟩, .val ⟨.int .i64, j⟩] = if 0 ≤ i ∧ i < (xs.length : Int) ∧ j = i + 1 then some ⟨.own EntT (xs.take i.toNat ++ xs.drop (i.toNat + 1)), []⟩ else none := conR_mk (ks := [(.r, EntT), (.v, .int .i64), (.v, .int .i64)]) (xs, i, j, ())
def Γddel : Cons := cons []
theorem repList_near {w w' : World} {R R' : Nat → Prop} {t : Ty} {xs : List t.den} {cs : List Value} (hf : t.far = false) (h : repList (rep w R t) xs cs) : repList (rep w' R' t) xs cs := h.imp fun x c _ hx => rep_near t hf hx
theorem ddel_core (xs : List Ent) (k : Nat) (hk : k < xs.length) {vals : List Value} {w : World} {R : Nat → Prop} (hrd : Ready w R [.row EntT xs, .val ⟨.int .i64, (k : Int)⟩, .val ⟨.int .i64, (k : Int) + 1⟩] vals) :
    Goes Try.prog 29 vals w (.own EntT (xs.take k ++ xs.drop (k + 1))) (After w R [.row EntT xs, .val ⟨.int .i64, (k : Int)⟩, .val ⟨.int .i64, (k : Int) + 1⟩] vals ⟨.own EntT (xs.take k ++ xs.drop (k + 1)), []⟩) := by
  obtain ⟨hrep, hnd, hap⟩ := hrd
  obtain ⟨v1, r1, rfl, hv1, v2, r2, rfl, hv2, v3, r3, rfl, hv3, rfl⟩ := hrep
  obtain ⟨A, c, cs, rfl, g1, g2, g3, g4⟩ := (show OwnS w R EntT xs v1 from hv1)
  have hv2 := vrep_int hv2
  have hv3 := vrep_int hv3
  subst hv2 hv3
  have hlen : cs.length = xs.length * 2 := g3.length (fun x c hx => rep_len EntT hx)
  have hcell : ∀ v ∈ cs, v.oneCell' = true := rep_cells (w := w) (R := R) (.arr xs.length EntT) (x := xs) ⟨rfl, g3⟩
  rcases g4 with ⟨rfl, rfl⟩ | ⟨⟨b, off, sp⟩, rfl, hm⟩
  · omega
  obtain rfl : sp = none := hm.out.1
  have run := del_run b off xs.length (xs.length - 1) c k cs w (by omega) (by omega) g1 g2 hm hlen hcell
  refine .inl ⟨_, _, w, enters Try.func29 (by kernel_rfl) (by kernel_rfl) _ _, run.mono ?_⟩
  rintro e w' ⟨rfl, hm', hb⟩
  refine ⟨_, rfl, ⟨hb.os, hb.tape, hb.output, hb.size, fun x hx hn => hb.block x hx fun ad e => ?_⟩, fun x hx => .inr ⟨rfl, ?_⟩, ?_, ?_⟩
  · injection e with e
    subst e
    rintro rfl
    exact hn (by simp [ioBlks, ioBlk])
  · have hx : b = x := by injection hx
    rw [← hx]
    simp [rowBlks, rowBlk]
  · have hl2 : (xs.take k ++ xs.drop (k + 1)).length = xs.length - 1 := by rw [List.length_append, List.length_take, List.length_drop]; omega
    refine ⟨some ⟨b, off, none⟩, c, _, by rw [hl2], by rw [hl2]; omega, g2, ?_, .inr ⟨_, rfl, hm'⟩⟩
    have ht := repList_take g3 k
    have hd := g3.drop (fun x c hx => rep_len EntT hx) (k + 1)
    have e2 : (k + 1) * EntT.sz = k * 2 + 2 := by show (k + 1) * 2 = _; omega
    rw [e2] at hd
    exact (repList_near (by rfl) ht).append (repList_near (by rfl) hd)
  · exact ⟨_, _, rfl, _, _, rfl, _, _, rfl, rfl⟩
theorem ddel_ok : ConOK Try.prog 29 ddelC := by
  intro args out vals w R h hrd
  have hne : args ≠ [.ask] := by
    rintro rfl
    obtain ⟨v, r, _, hf, _⟩ := hrd.rep
    exact hf
  obtain ⟨x, e, h1⟩ := conR_inv h hne
  clear h hne
  obtain ⟨xs, i, j, x0⟩ := x
  subst e
  replace h1 : (if 0 ≤ (i : Int) ∧ (i : Int) < (List.length xs : Int) ∧ (j : Int) = (i : Int) + 1 then some (⟨.own EntT (List.take (Int.toNat i) xs ++ List.drop (Int.toNat i + 1) xs), []⟩ : Out) else none) = some out := h1
  split at h1
  case isFalse => cases h1
  rename_i hr
  injection h1 with h1
  subst h1
  obtain ⟨hi0, hi1, hj⟩ := hr
  obtain ⟨k, hk⟩ : ∃ k : Nat, (i : Int) = (k : Int) := ⟨Int.toNat i, (Int.toNat_of_nonneg hi0).symm⟩
  subst hk
  subst hj
  exact ddel_core xs k (Int.ofNat_lt.1 hi1) hrd
end Go.Proofs.Ytfjbfopomepnoaa
