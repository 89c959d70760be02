/- glacislaw7: what its entries are. -/
import Derived.Test.YtfjbfopomepnoaaDir8
set_option maxRecDepth 100000
set_option maxHeartbeats 1000000
set_option linter.unusedSimpArgs false
set_option linter.unusedVariables false
set_option pp.deepTerms.threshold 16
namespace Go.Proofs.Ytfjbfopomepnoaa
open Go.Tm Go.IntWalk
theorem entN_ok : ∀ n, n < 256 → okE (entN n) = true := by decide +kernel
theorem insD_mem {e x : Ent} {l : List Ent} : x ∈ insD e l ↔ x = e ∨ x ∈ l := by
  induction l with
  | nil => simp [insD]
  | cons y r ih =>
    unfold insD
    split
    · simp
    · rw [List.mem_cons, ih, List.mem_cons]
      exact ⟨fun h => by rcases h with h | h | h <;> simp [h], fun h => by rcases h with h | h | h <;> simp [h]⟩
theorem findD_false {l : List Ent} {nm : ByteArray} (h : (findD l nm).2 = false) : ∀ x ∈ l, x.1 ≠ nm := by
  intro x hx e
  unfold findD at h
  cases hf : l.find? fun e => eqB e.1 nm with
  | none => exact absurd (List.find?_eq_none.1 hf x hx) (by rw [e, eqB_refl]; decide)
  | some y => rw [hf] at h; cases h
theorem insD_rises {e : Ent} {l : List Ent} (h : Rises l) (hne : ∀ x ∈ l, x.1 ≠ e.1) : Rises (insD e l) := by
  induction l with
  | nil => exact List.pairwise_singleton _ _
  | cons x r ih =>
    obtain ⟨h1, h2⟩ := List.pairwise_cons.1 h
    unfold insD
    split
    · rename_i hx
      refine List.pairwise_cons.2 ⟨fun y hy => ?_, h⟩
      rcases List.mem_cons.1 hy with rfl | hy
      · exact hx
      · exact ltB_trans hx (h1 y hy)
    · rename_i hx
      refine List.pairwise_cons.2 ⟨fun y hy => ?_, ih h2 fun y hy => hne y (by simp [hy])⟩
      rcases insD_mem.1 hy with rfl | hy
      · exact (ltB_tri (by simpa using hx)).resolve_left (fun e => hne x (by simp) e.symm)
      · exact h1 y hy
theorem withD_rises {l : List Ent} {e : Ent} (h : Rises l) : Rises (withD l e).1 := by
  unfold withD
  split
  · exact h
  · rename_i hf
    exact insD_rises h (findD_false (by simpa using hf))
theorem withD_mem {l : List Ent} {e x : Ent} (h : x ∈ (withD l e).1) : x = e ∨ x ∈ l := by
  unfold withD at h
  split at h
  · exact .inr h
  · exact insD_mem.1 h
theorem entsN_good {l : List Int} (hB : isB l) : Rises (entsN l) ∧ ∀ e ∈ entsN l, okE e = true := by
  have key : ∀ (l : List Int), isB l → ∀ out : List Ent, (Rises out ∧ ∀ e ∈ out, okE e = true) → Rises (l.foldl (fun out v => (withD out (entN v.toNat)).1) out) ∧ ∀ e ∈ l.foldl (fun out v => (withD out (entN v.toNat)).1) out, okE e = true := by
    intro l
    induction l with
    | nil => exact fun _ out h => h
    | cons v r ih =>
      intro hb out ⟨h1, h2⟩
      rw [List.foldl_cons]
      have hv := hb v (by simp)
      refine ih (fun x hx => hb x (by simp [hx])) _ ⟨withD_rises h1, fun e he => ?_⟩
      rcases withD_mem he with rfl | he
      · exact entN_ok _ (by omega)
      · exact h2 e he
  exact key l hB [] ⟨List.Pairwise.nil, by simp⟩
theorem okE_size {e : Ent} (h : okE e = true) : e.1.size ≤ 6 := (ownS_size (okE_out h).1).2
theorem entN_two : ∀ n, n < 256 → (entN n).1.size ≤ 2 := by decide +kernel
theorem entsN_two {l : List Int} (hB : isB l) : ∀ e ∈ entsN l, e.1.size ≤ 2 := by
  have key : ∀ (l : List Int), isB l → ∀ out : List Ent, (∀ e ∈ out, e.1.size ≤ 2) → ∀ e ∈ l.foldl (fun out v => (withD out (entN v.toNat)).1) out, e.1.size ≤ 2 := by
    intro l
    induction l with
    | nil => exact fun _ out h => h
    | cons v r ih =>
      intro hb out h2
      rw [List.foldl_cons]
      have hv := hb v (by simp)
      refine ih (fun x hx => hb x (by simp [hx])) _ fun e he => ?_
      rcases withD_mem he with rfl | he
      · exact entN_two _ (by omega)
      · exact h2 e he
  exact key l hB [] (by simp)
theorem dirL_len4 : ∀ {l : List Ent}, (∀ e ∈ l, e.1.size ≤ 2) → (dirL l).length ≤ 4 * l.length
  | [], _ => Nat.le_refl _
  | e :: l, h => by
    have h1 := h e (by simp)
    have h2 := dirL_len4 (l := l) fun x hx => h x (by simp [hx])
    rw [dirL_cons, List.length_append, entL_len, List.length_cons]
    omega
theorem entsN_dir {l : List Int} (hB : isB l) (hl : l.length ≤ 30) : dirOK (entsN l) := by
  obtain ⟨h1, h2⟩ := entsN_good hB
  have h3 := dirL_len4 (entsN_two hB)
  have h4 := entsN_len l
  exact ⟨h2, h1, by omega⟩
end Go.Proofs.Ytfjbfopomepnoaa
