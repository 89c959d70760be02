/- name.Own, by the program. -/
import Derived.Test.YthhjlbpmpffapaaGreatDoorRef6o
set_option maxRecDepth 10000
set_option maxHeartbeats 1000000
set_option linter.unusedSimpArgs false
set_option linter.unusedVariables false
set_option pp.deepTerms.threshold 12
namespace Go.Proofs.YthhjlbpmpffapaaGreatDoor
open Go.Tm Go.IntWalk
theorem bytes_at (s : ByteArray) (i : Nat) : (bytesOf s).getD i 0 = byteAt s i := by
  unfold bytesOf byteAt
  rw [List.getD_eq_getElem?_getD, List.getD_eq_getElem?_getD, List.getElem?_map]
  cases s.data.toList[i]? <;> rfl
/-- The contract of name.Own. -/
def downC : Con := conN [(.v, .str)] fun (s, _) => if s.size ≤ 9223372036854775807 then some ⟨.val ⟨.bool, ownS s⟩, []⟩ else none
theorem downC_eq {s : ByteArray} : downC [.val ⟨.str, s⟩] = if s.size ≤ 9223372036854775807 then some ⟨.val ⟨.bool, ownS s⟩, []⟩ else none := conN_mk (ks := [(.v, .str)]) (s, ())
def Γdown : Cons := cons []
theorem down_ex (s : ByteArray) (hr : s.size ≤ 9223372036854775807) : Ex tab Γdown (Tryz.f74.body.getD .skip) (EndsF tab Tryz.f74.results.toList [.val ⟨.str, s⟩] ⟨.val ⟨.bool, ownS s⟩, []⟩) (ini [.val ⟨.str, s⟩]) := by
  simp only [Tryz.f74, Option.getD_some]
  simp (implicitDefEqProofs := false) (decide := true) (maxSteps := 4000000) [ini]
  intro m
  have hl : (bytesOf s).length = s.size := bytesOf_len s
  refine ⟨hr, fun _ => ?_⟩
  refine ex_loopU (σ := Nat) [2, 4, 8, 9, 10, 11, 12, 13, 14, 15, 16, 17, 18, 19, 20, 21, 22, 23] (fun a => [(8, .val (.int .i64) (a : Int))]) (fun a => a ≤ s.size ∧ ∀ c ∈ (bl s).take a, okC c = true) (fun a => s.size - a) 0 ⟨Nat.zero_le _, by simp⟩ (hc rfl hn) ?_
  rintro j i ⟨hi, ha⟩
  simp (implicitDefEqProofs := false) (decide := true) (maxSteps := 4000000) [ini]
  have hb : (bytesOf s)[i]?.getD 0 = byteAt s i := by rw [← List.getD_eq_getElem?_getD]; exact bytes_at s i
  rw [hb, show byteAt ⟨#[47]⟩ 0 = (47 : Int) from rfl]
  refine br_dec (fun hlt => ⟨hlt, br_intro (fun h1 => ownS_bad (i := i) (by omega) (by rw [h1]; rfl)) fun h1 => br_intro (fun h2 => ownS_bad (i := i) (by omega) (by rw [h1, h2]; rfl)) fun h2 => br_intro (fun h3 => ownS_bad (i := i) (by omega) (by rw [h1, h2, h3]; rfl)) fun h3 => ?_⟩) fun hge => ?_
  · have hlt : i < s.size := by omega
    refine ⟨i + 1, ⟨hlt, fun c hc => ?_⟩, by omega, w_nat rfl (by omega)⟩
    have hl : i < (bl s).length := by rw [← bl_size]; exact hlt
    rw [List.take_succ_eq_append_getElem hl, List.mem_append, List.mem_singleton] at hc
    rcases hc with hc | rfl
    · exact ha c hc
    · rw [okC_byte hlt, h1, h2, h3]; rfl
  · have e : i = s.size := by omega
    have hall : (bl s).all okC = true := List.all_eq_true.2 fun c hc => ha c (by rw [e, bl_size, List.take_length]; exact hc)
    unfold ownS
    rw [hall]
    refine br_dec (fun h => ?_) fun h => ?_
    · have h : 1 ≤ s.size := by omega
      simp only [h, decide_true, Bool.true_and]
      rw [decide_eq_decide]; omega
    · have h : ¬ 1 ≤ s.size := by omega
      simp [h]
theorem down_ok : ConOK Tryz.prog 74 downC := by
  refine con_ok tab_ok (Γ := Γdown) consOK_nil (by kernel_rfl) Tryz.func74 (by kernel_rfl) ?_
  intro args out h
  obtain ⟨x, e, h1⟩ := conN_inv h
  clear h
  obtain ⟨s, x0⟩ := x
  subst e
  replace h1 : (if s.size ≤ 9223372036854775807 then some ⟨.val ⟨.bool, ownS s⟩, []⟩ else none) = some out := h1
  split at h1
  case isFalse => cases h1
  rename_i hr
  injection h1 with h1
  subst h1
  exact ⟨by rw [mkArgs_len]; decide, down_ex s hr⟩
end Go.Proofs.YthhjlbpmpffapaaGreatDoor
