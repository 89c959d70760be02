/- The reference's names, walked. -/
import Derived.Test.YthhjlbpmpffapaaGreatDoorTab
import Derived.Test.YthhjlbpmpffapaaGreatDoorPStr
set_option maxRecDepth 10000
set_option linter.unusedSimpArgs false
set_option linter.unusedVariables false
set_option pp.deepTerms.threshold 14
namespace Go.Proofs.YthhjlbpmpffapaaGreatDoor
open Go.Tm Go.IntWalk

def okC (c : UInt8) : Bool := !(decide (c < 33) || decide (126 < c) || c == 47)
def ownS (s : ByteArray) : Bool := (bl s).all okC && decide (1 ≤ s.size) && decide (s.size ≤ 6)
def mayN (s : ByteArray) : Bool := ownS s && !(byteAt s 0 == 126)
theorem okC_byte {s : ByteArray} {i : Nat} (h : i < s.size) : okC ((bl s)[i]'(by rw [← bl_size]; exact h)) = (!(decide (byteAt s i < 33) || decide (126 < byteAt s i) || (byteAt s i == 47))) := by
  have hl : i < (bl s).length := by rw [← bl_size]; exact h
  rw [byteAt_bl, List.getD_eq_getElem?_getD, List.getElem?_eq_getElem hl, Option.getD_some]
  generalize (bl s)[i] = c
  unfold okC
  have e1 : decide (c < 33) = decide ((c.toNat : Int) < 33) := by
    rw [decide_eq_decide, UInt8.lt_iff_toNat_lt]
    exact ⟨fun h => by have : c.toNat < 33 := h; omega, fun h => by show c.toNat < 33; omega⟩
  have e2 : decide (126 < c) = decide (126 < (c.toNat : Int)) := by
    rw [decide_eq_decide, UInt8.lt_iff_toNat_lt]
    exact ⟨fun h => by have : 126 < c.toNat := h; omega, fun h => by show 126 < c.toNat; omega⟩
  have e3 : (c == 47) = ((c.toNat : Int) == 47) := by
    rw [Bool.eq_iff_iff, beq_iff_eq, beq_iff_eq, ← UInt8.toNat_inj]
    exact ⟨fun h => by have : c.toNat = 47 := h; omega, fun h => by show c.toNat = 47; omega⟩
  rw [e1, e2, e3]
theorem ownS_bad {s : ByteArray} {i : Nat} (h : i < s.size) (hb : (!(decide (byteAt s i < 33) || decide (126 < byteAt s i) || (byteAt s i == 47))) = false) : ownS s = false := by
  have hl : i < (bl s).length := by rw [← bl_size]; exact h
  unfold ownS
  rw [show (bl s).all okC = false from List.all_eq_false.2 ⟨(bl s)[i], List.getElem_mem hl, by rw [okC_byte h, hb]; decide⟩]
  rfl
/-- The contract of glacisref6.Own. -/
def rownC : Con := conN [(.v, .str)] fun (s, _) => if s.size ≤ 9000000000000000000 then some ⟨.val ⟨.bool, ownS s⟩, []⟩ else none
theorem rownC_eq {s : ByteArray} : rownC [.val ⟨.str, s⟩] = if s.size ≤ 9000000000000000000 then some ⟨.val ⟨.bool, ownS s⟩, []⟩ else none := conN_mk (ks := [(.v, .str)]) (s, ())
def Γrown : Cons := cons []
theorem rown_ex (s : ByteArray) (hr : s.size ≤ 9000000000000000000) : Ex tab Γrown (Tryz.f58.body.getD .skip) (EndsF tab Tryz.f58.results.toList [.val ⟨.str, s⟩] ⟨.val ⟨.bool, ownS s⟩, []⟩) (ini [.val ⟨.str, s⟩]) := by
  simp only [Tryz.f58, Option.getD_some]
  simp (implicitDefEqProofs := false) (decide := true) (maxSteps := 4000000) [ini]
  refine ex_loopU (σ := Nat) [2, 3, 4, 5, 6, 7, 8, 9, 10, 11, 12, 13, 14, 15, 16, 17, 18, 19, 20, 21, 22, 23, 24, 25] (fun a => [(3, .val (.int .i64) (a : Int))]) (fun a => a ≤ s.size ∧ ∀ c ∈ (bl s).take a, okC c = true) (fun a => s.size - a) 0 ⟨Nat.zero_le _, by simp⟩ (hc rfl hn) ?_
  rintro j i ⟨hi, ha⟩
  simp (implicitDefEqProofs := false) (decide := true) (maxSteps := 4000000) [ini]
  refine br_dec (fun hlt => ⟨hlt, br_intro (fun h1 => ownS_bad hlt (by rw [h1]; rfl)) fun h1 => ⟨hlt, br_intro (fun h2 => ownS_bad hlt (by rw [h1, h2]; rfl)) fun h2 => ⟨hlt, br_intro (fun h3 => ownS_bad hlt (by rw [h1, h2, h3]; rfl)) fun h3 => ?_⟩⟩⟩) fun hge => ?_
  · refine ⟨i + 1, ⟨hlt, fun c hc => ?_⟩, by omega, w_nat rfl (by omega)⟩
    have hl : i < (bl s).length := by rw [← bl_size]; exact hlt
    rw [List.take_succ_eq_append_getElem hl, List.mem_append, List.mem_singleton] at hc
    rcases hc with hc | rfl
    · exact ha c hc
    · rw [okC_byte hlt, h1, h2, h3]; rfl
  · have e : i = s.size := by omega
    have hall : (bl s).all okC = true := List.all_eq_true.2 fun c hc => ha c (by rw [e, bl_size, List.take_length]; exact hc)
    unfold ownS
    rw [hall]
    refine br_dec (fun h => ?_) fun h => ?_
    · have h : 1 ≤ s.size := by omega
      simp only [h, decide_true, Bool.true_and]
      rw [decide_eq_decide]; omega
    · have h : ¬ 1 ≤ s.size := by omega
      simp [h]
theorem rown_ok : ConOK Tryz.prog 58 rownC := by
  refine con_ok tab_ok (Γ := Γrown) consOK_nil (by kernel_rfl) Tryz.func58 (by kernel_rfl) ?_
  intro args out h
  obtain ⟨x, e, h1⟩ := conN_inv h
  clear h
  obtain ⟨s, x0⟩ := x
  subst e
  replace h1 : (if s.size ≤ 9000000000000000000 then some ⟨.val ⟨.bool, ownS s⟩, []⟩ else none) = some out := h1
  split at h1
  case isFalse => cases h1
  rename_i hr
  injection h1 with h1
  subst h1
  exact ⟨by rw [mkArgs_len]; decide, rown_ex s hr⟩
theorem ownS_size {s : ByteArray} (h : ownS s = true) : 1 ≤ s.size ∧ s.size ≤ 6 := by
  unfold ownS at h
  simp only [Bool.and_eq_true, decide_eq_true_eq] at h
  exact ⟨h.1.2, h.2⟩
end Go.Proofs.YthhjlbpmpffapaaGreatDoor
