/- A region that seals rows leaves alone what it does not name. -/
import Derived.Test.YtcopoofbicgjbaaTmC
set_option linter.unusedSimpArgs false
set_option linter.unusedVariables false
namespace Go.Tm
def srcs (ops : Array Oper) : List Nat := ops.toList.filterMap fun o => match o.op with | .move (.tmp s) => some s | _ => none
theorem src_of {ops : Array Oper} {o : Oper} {k : Nat} (ho : o ∈ ops.toList) (h : o.op = .move (.tmp k)) : k ∈ srcs ops :=
  List.mem_filterMap.2 ⟨o, ho, by rw [h]⟩
theorem keeps_src {tab : Tab} {ops : Array Oper} {k : Nat} (h : keeps tab ops k = true) : k ∈ srcs ops := by
  simp only [keeps, Bool.or_eq_true] at h
  rcases h with h | h
  · unfold keeps0 at h
    rw [List.any_eq_true] at h
    obtain ⟨o, _, h⟩ := h
    split at h
    · rw [List.any_eq_true] at h
      obtain ⟨p, _, h⟩ := h
      split at h
      · rw [List.any_eq_true] at h
        obtain ⟨o2, ho2, h⟩ := h
        split at h
        · rename_i s hs
          simp only [Bool.and_eq_true, beq_iff_eq] at h
          exact src_of ho2 (h.1.1 ▸ hs)
        · cases h
      · cases h
    · cases h
  · have h := of_decide_eq_true h
    obtain ⟨o, ho⟩ := List.exists_mem_of_length_pos (Nat.lt_of_lt_of_le (by decide) h)
    obtain ⟨_, h⟩ := List.mem_filter.1 ho
    unfold lendsF at h
    split at h
    · simp only [Bool.and_eq_true] at h
      obtain ⟨_, h⟩ := h
      rw [List.any_eq_true] at h
      obtain ⟨x, _, h⟩ := h
      unfold movedRow at h
      split at h
      · rw [List.any_eq_true] at h
        obtain ⟨o2, ho2, h⟩ := h
        split at h
        · rename_i s hs
          simp only [Bool.and_eq_true, beq_iff_eq] at h
          exact src_of ho2 (h.1.1 ▸ hs)
        · cases h
      · cases h
    · cases h
theorem mem_mem {k : Nat} : ∀ {D : List Nat}, k ∈ D → mem k D = true
  | [], h => by cases h
  | d :: D, h => by
    simp only [mem, Bool.or_eq_true, beq_iff_eq]
    rcases List.mem_cons.1 h with h | h
    · exact .inl h
    · exact .inr (mem_mem h)
theorem off_seal {D : List Nat} {st f : St} {tab : Tab} {ops : Array Oper} (h : inL (srcs ops) D = true) : Off D st (sealP (keeps tab ops) f) = Off D st f := by
  have key : ∀ k, mem k D = false → sealP (keeps tab ops) f k = f k := fun k hk => by
    rw [sealP_at]
    cases e : keeps tab ops k with
    | false => cases f k <;> rfl
    | true =>
      have := mem_inL h hk
      rw [mem_mem (keeps_src e)] at this
      cases this
  refine propext ⟨fun h' => ⟨fun k hk => ?_⟩, fun h' => ⟨fun k hk => ?_⟩⟩
  · rw [← key k hk]; exact h'.out k hk
  · rw [key k hk]; exact h'.out k hk
end Go.Tm
