/- A region that draws its order, by what holds whatever has been done of it. -/
import Derived.RegionTactic
import Derived.Orders
set_option linter.unusedVariables false
set_option linter.unusedSimpArgs false
namespace Go.Proofs.YtodkmhamaahjmaaGreatDoor
open Go
theorem countP_set : ∀ {l : List Bool} {i : Nat}, l[i]? = some false → (l.set i true).countP (fun b => !b) + 1 = l.countP (fun b => !b)
  | [], i, h => by simp at h
  | b :: r, 0, h => by
    have e : b = false := by simpa using h
    subst e
    simp [List.countP_cons]
  | b :: r, i + 1, h => by
    have := countP_set (l := r) (i := i) (by simpa using h)
    simp only [List.set_cons_succ, List.countP_cons]
    omega
theorem ready_out {md : Region.Mode} {ops : Array Oper} {l : Array Bool} {i : Nat} (h : i ∈ Region.ready md ops l) :
    i < ops.size ∧ l.getD i true = false ∧ ∃ o, ops[i]? = some o ∧ ∀ e ∈ o.after, Region.binds md e = true → l.getD e.on false = true := by
  unfold Region.ready at h
  rw [List.mem_filter, List.mem_range, Bool.and_eq_true] at h
  obtain ⟨h1, h2, h3⟩ := h
  refine ⟨h1, by simpa using h2, ?_⟩
  cases ho : ops[i]? with
  | none => rw [ho] at h3; cases h3
  | some o =>
    refine ⟨o, rfl, fun e he hb => ?_⟩
    rw [ho] at h3
    simp only [Option.map_some, Option.getD_some] at h3
    have := (Array.all_eq_true'.1 h3) e he
    rw [hb] at this
    simpa using this
theorem wpAny_inv {P : Program} {md : Region.Mode} {ops : Array Oper} {Q : Exit → Act → World → Prop} (I : Array Bool → Act → World → Prop)
    (hdone : ∀ l a w, I l a w → Region.ready md ops l = [] → Q .normal a w)
    (hstep : ∀ l a w i, I l a w → i ∈ Region.ready md ops l → wpOp P ops Q i (fun a' w' => I (l.setIfInBounds i true) a' w') a w) :
    ∀ (fuel : Nat) (l : Array Bool) (a : Act) (w : World), I l a w → l.toList.countP (fun b => !b) ≤ fuel → wpAny P md ops Q fuel l a w
  | 0, l, a, w, hI, hc => by
    have hr : Region.ready md ops l = [] := by
      unfold Region.ready
      rw [List.filter_eq_nil_iff]
      intro i hi
      have h0 : l.toList.countP (fun b => !b) = 0 := by omega
      rw [List.countP_eq_zero] at h0
      have : l.getD i true = true := by
        rw [Array.getD_eq_getD_getElem?]
        cases hg : l[i]? with
        | none => rfl
        | some b =>
          have hm : b ∈ l.toList := by
            obtain ⟨hlt, e⟩ := Array.getElem?_eq_some_iff.1 hg
            rw [← e]; exact Array.getElem_mem_toList hlt
          have := h0 b hm
          simpa using this
      rw [this]; simp
    exact ⟨hr, hdone _ _ _ hI hr⟩
  | fuel + 1, l, a, w, hI, hc => ⟨hdone _ _ _ hI, fun i hi => by
    obtain ⟨h1, h2, _⟩ := ready_out hi
    refine wpOp_mono (fun a' w' h' => wpAny_inv I hdone hstep fuel _ _ _ h' ?_) (hstep l a w i hI hi)
    have hg : l.toList[i]? = some false := by
      rw [Array.getD_eq_getD_getElem?] at h2
      rw [Array.getElem?_toList]
      cases hg : l[i]? with
      | none => rw [hg] at h2; cases h2
      | some b => rw [hg] at h2; have : b = false := h2; rw [this]
    have := countP_set hg
    rw [Array.toList_setIfInBounds]
    omega⟩
theorem ready_nil {md : Region.Mode} {ops : Array Oper} {l : Array Bool} {i : Nat} {o : Oper} (hr : Region.ready md ops l = []) (hi : ops[i]? = some o) (hs : i < l.size) (hd : ∀ e ∈ o.after, Region.binds md e = true → l.getD e.on false = true) : l.getD i false = true := by
  cases hg : l.getD i false with
  | true => rfl
  | false =>
    exfalso
    have hg2 : l.getD i true = false := by
      rw [Array.getD_eq_getD_getElem?, Array.getElem?_eq_getElem hs] at hg ⊢
      exact hg
    have hm : i ∈ Region.ready md ops l := by
      unfold Region.ready
      rw [List.mem_filter, List.mem_range]
      refine ⟨(Array.getElem?_eq_some_iff.1 hi).1, ?_⟩
      rw [hg2, hi]
      simp only [Bool.not_false, Bool.true_and, Option.map_some, Option.getD_some]
      rw [Array.all_eq_true']
      intro e he
      cases hb : Region.binds md e with
      | false => rfl
      | true => rw [hd e he hb]; rfl
    rw [hr] at hm
    cases hm
theorem unlisted {l : Array Bool} {i : Nat} (h : l.getD i true = false) : l.getD i false = false := by
  rw [Array.getD_eq_getD_getElem?] at h ⊢
  cases hg : l[i]? with
  | none => rfl
  | some b => rw [hg] at h; exact h
theorem list_set {l : Array Bool} {n i j : Nat} (hn : l.size = n) (hi : i < n) : (l.setIfInBounds i true).getD j false = if i = j then true else l.getD j false := by
  rw [Array.getD_eq_getD_getElem?, Array.getD_eq_getD_getElem?, Array.getElem?_setIfInBounds]
  split
  · rename_i e; subst e; rw [if_pos (by omega)]; rfl
  · rfl
end Go.Proofs.YtodkmhamaahjmaaGreatDoor
