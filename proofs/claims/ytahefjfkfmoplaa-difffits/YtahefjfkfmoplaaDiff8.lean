/- diff: the program's answer and the document's, of what is gone. -/
import Derived.Test.YtahefjfkfmoplaaDiff6
set_option maxRecDepth 10000
set_option linter.unusedSimpArgs false
set_option linter.unusedVariables false
namespace Go.Proofs.Ytahefjfkfmoplaa
open Go.Tm Go.IntWalk

theorem findD_at : ∀ {l : List Ent}, Rises l → ∀ {e : Ent}, e ∈ l → findD l e.1 = (e.2.1, true)
  | [], _, e, h => by cases h
  | a :: l, hr, e, h => by
    obtain ⟨h1, h2⟩ := List.pairwise_cons.1 hr
    unfold findD
    rw [List.find?_cons]
    by_cases ha : a.1 = e.1
    · have hae : e = a := by
        rcases List.mem_cons.1 h with e2 | e2
        · exact e2
        · have := h1 e e2
          rw [ha, ltB_irrefl] at this; cases this
      rw [eqB_iff.2 ha, hae]
    · rw [eqB_ne ha]
      have he : e ∈ l := (List.mem_cons.1 h).resolve_left fun e2 => ha (by rw [e2])
      exact findD_at h2 he
theorem findD_some {l : List Ent} {nm : ByteArray} (h : (findD l nm).2 = true) : (nm, (findD l nm).1, ()) ∈ l := by
  unfold findD at h ⊢
  split at h
  · rename_i e he
    have h1 := List.mem_of_find?_eq_some he
    have h2 := List.find?_some he
    have h3 : e.1 = nm := eqB_iff.1 h2
    rw [← h3]
    exact h1
  · cases h
theorem names_rises {t : List Node} {i : Int} : Rises (namesT t i) := by
  unfold namesT
  split
  · exact List.Pairwise.nil
  · rcases takeD_cases (bodyT t i) with ⟨l, hl⟩ | hl <;> rw [hl]
    · exact (takeD_iff.1 hl).1.2.1
    · exact List.Pairwise.nil
theorem hasD_iff {u : List Node} {e : En} : hasD u e = true ↔ (e.2.1, e.2.2.1, ()) ∈ namesT u e.1 := by
  unfold hasD
  constructor
  · intro h
    rw [Bool.and_eq_true] at h
    have h1 := findD_some h.1
    have h2 : (findD (namesT u e.1) e.2.1).1 = e.2.2.1 := eq_of_beq h.2
    rw [h2] at h1
    exact h1
  · intro h
    have := findD_at names_rises h
    simp only at this
    rw [this]
    simp
theorem ent_iff {u : List Node} {e : En} (h1 : 1 ≤ e.1) (h2 : e.1 ≤ u.length) : e ∈ entD u ↔ (e.2.1, e.2.2.1, ()) ∈ namesT u e.1 := by
  obtain ⟨i, nm, ino, un⟩ := e
  simp only at h1 h2
  constructor
  · intro h
    obtain ⟨k, x, _, hx, e2⟩ := entN_mem h
    simp only [toEn, Prod.mk.injEq] at e2
    obtain ⟨e3, e4, e5, _⟩ := e2
    rw [e3, e4, e5]
    exact hx
  · intro h
    obtain ⟨k, rfl⟩ : ∃ k : Nat, i = ((k + 1 : Nat) : Int) := ⟨(i - 1).toNat, by omega⟩
    have hm : ∀ {n : Nat}, k < n → ((((k + 1 : Nat) : Int), nm, ino, un) : En) ∈ entN u n := by
      intro n
      induction n with
      | zero => intro h; omega
      | succ n ih =>
        intro hk
        rw [entN_succ, List.mem_append]
        by_cases hkn : k = n
        · subst hkn; exact .inr (List.mem_map.2 ⟨_, h, rfl⟩)
        · exact .inl (ih (by omega))
    exact hm (by omega)
/-- Both answers are the same on good trees. -/
theorem gone_eq {t u : List Node} (ht : GoodT t) (hu : GoodT u) : goneD t u = goneR t u := by
  have lu := hu.len
  refine List.filter_congr fun e he => ?_
  obtain ⟨k1, k2, k3, k4, k5, k6⟩ := ent_kinds ht he
  have hany : ((entD u).any fun x => same EnT e x) = hasD u e := by
    cases h : hasD u e with
    | true =>
      have hm := (ent_iff (u := u) k2 (by omega)).2 (hasD_iff.1 h)
      exact List.any_eq_true.2 ⟨e, hm, same_refl (t := EnT) (by decide) e⟩
    | false =>
      refine List.any_eq_false.2 fun x hx hs => ?_
      have e2 : e = x := same_eq (t := EnT) (by decide) hs
      rw [← e2] at hx
      have := hasD_iff.2 ((ent_iff (u := u) k2 (by omega)).1 hx)
      rw [h] at this; cases this
  rw [keptD, hany, goneP]
  cases hh : hasD u e with
  | false => simp
  | true =>
    have hx := (ent_iff (u := u) k2 (by omega)).2 (hasD_iff.1 hh)
    obtain ⟨u1, _, _, _, _, _⟩ := ent_kinds hu hx
    have s1 : sameD ((t, ()), (u, ()), ()) e.1 = true := by
      unfold sameD
      simp only
      rw [kindD_9 ht k2 k3, kindD_9 hu k2 k3, k1, u1]
      decide
    have s2 : sameD ((t, ()), (u, ()), ()) e.2.2.1 = (kindT t e.2.2.1 == kindT u e.2.2.1) := by
      unfold sameD
      simp only
      rw [kindD_9 ht k5 k6, kindD_9 hu k5 k6, decide_eq_true k4, Bool.true_and]
      rfl
    rw [s1, s2]
    simp
end Go.Proofs.Ytahefjfkfmoplaa
