/- diff: what is in what. -/
import Derived.Test.YtahefjfkfmoplaaDiff8
set_option maxRecDepth 10000
set_option linter.unusedSimpArgs false
set_option linter.unusedVariables false
namespace Go.Proofs.Ytahefjfkfmoplaa
open Go.Tm Go.IntWalk
def anyE (l : List En) (e : En) : Bool := l.any fun x => same EnT x e
theorem anyE_nil {e : En} : anyE [] e = false := rfl
theorem anyE_iff {l : List En} {e : En} : anyE l e = true ↔ e ∈ l := by
  unfold anyE
  rw [List.any_eq_true]
  constructor
  · rintro ⟨x, hx, hs⟩
    have e2 : x = e := same_eq (t := EnT) (by decide) hs
    rwa [← e2]
  · exact fun h => ⟨e, h, same_refl (t := EnT) (by decide) e⟩
theorem anyE_next {l : List En} {e : En} {k : Nat} {d : En} (h : k < l.length) : anyE (l.take (k + 1)) e = (anyE (l.take k) e || same EnT (l[k]?.getD d) e) := by
  unfold anyE
  rw [List.take_succ_eq_append_getElem h, List.any_append, List.getElem?_eq_getElem h]
  simp
theorem anyE_yes {l : List En} {e : En} {k : Nat} (h : k < l.length) (ha : anyE (l.take k) e = true) : anyE (l.take (k + 1)) e = true := by
  rw [anyE_next (d := e) h, ha]; rfl
theorem anyE_no {l : List En} {e d : En} {k : Nat} (h : k < l.length) (ha : anyE (l.take k) e = false) : same EnT (l[k]?.getD d) e = anyE (l.take (k + 1)) e := by
  rw [anyE_next (d := d) h, ha]; rfl
theorem anyE_full {l : List En} {e : En} {k : Nat} (h : l.length ≤ k) : anyE (l.take k) e = anyE l e := by rw [List.take_of_length_le h]
theorem getD_mem {l : List En} {i : Nat} {d : En} (h : i < l.length) : l[i]?.getD d ∈ l := by
  rw [List.getElem?_eq_getElem h]
  exact List.getElem_mem h
/-- What came is there. -/
theorem fits_come {t u : List Node} {i : Nat} {d : En} (h : i < (goneD u t).length) : anyE (entD u) ((goneD u t)[i]?.getD d) = true :=
  anyE_iff.2 (List.mem_filter.1 (getD_mem h)).1
/-- What is not gone is there yet. -/
theorem fits_stay {t u : List Node} (ht : GoodT t) (hu : GoodT u) {e : En} (he : e ∈ entD t) (h : anyE (goneD t u) e = false) : anyE (entD u) e = true := by
  cases hh : anyE (entD u) e with
  | true => rfl
  | false =>
    have : e ∈ goneD t u := by
      refine List.mem_filter.2 ⟨he, ?_⟩
      have hany : ((entD u).any fun x => same EnT e x) = false := by
        refine List.any_eq_false.2 fun x hx hs => ?_
        have e2 : e = x := same_eq (t := EnT) (by decide) hs
        rw [← e2] at hx
        rw [anyE_iff.2 hx] at hh; cases hh
      rw [keptD, hany]
      simp
    rw [anyE_iff.2 this] at h; cases h
/-- What is gone, and there, is of another kind. -/
theorem fits_kind {t u : List Node} (ht : GoodT t) (hu : GoodT u) {e : En} (h : anyE (goneD t u) e = true) (h2 : anyE (entD u) e = true) : kindT t e.2.2.1 ≠ kindT u e.2.2.1 := by
  have h := anyE_iff.1 h
  have h2 := anyE_iff.1 h2
  rw [gone_eq ht hu] at h
  have := (List.mem_filter.1 h).2
  have lu := hu.len
  obtain ⟨k1, k2, k3, k4, k5, k6⟩ := ent_kinds hu h2
  have hh : hasD u e = true := hasD_iff.2 ((ent_iff k2 (by omega)).1 h2)
  rw [goneP, hh] at this
  simpa using this
theorem dead_at {t u : List Node} {i : Nat} (h : i < (deadD t u).length) : ∃ k : Nat, (deadD t u)[i]?.getD 0 = ((k + 1 : Nat) : Int) ∧ k < t.length ∧ deadP t u k = true := by
  rw [List.getElem?_eq_getElem h, Option.getD_some]
  have hm := List.getElem_mem h
  obtain ⟨k, hk, e⟩ := List.mem_map.1 hm
  obtain ⟨hk1, hk2⟩ := List.mem_filter.1 hk
  exact ⟨k, e.symm, List.mem_range.1 hk1, hk2⟩
theorem dead_rises {t u : List Node} : (deadD t u).Pairwise (· < ·) := by
  unfold deadD deadN
  rw [List.pairwise_map]
  refine List.Pairwise.filter _ ?_
  exact List.pairwise_lt_range.imp fun {a b} h => by omega
theorem dead_less {t u : List Node} {i : Nat} (h : i + 1 < (deadD t u).length) : (deadD t u)[i]?.getD 0 < (deadD t u)[i + 1]?.getD 0 := by
  rw [List.getElem?_eq_getElem h, List.getElem?_eq_getElem (by omega), Option.getD_some, Option.getD_some]
  exact List.pairwise_iff_getElem.1 dead_rises _ _ _ _ (by omega)
theorem dead_kinds {t u : List Node} {k : Nat} (h : k < t.length) (hl : t.length = u.length) (hd : deadP t u k = true) : (t.getD k dfltN).1 ≠ 0 ∧ (t.getD k dfltN).1 ≠ (u.getD k dfltN).1 := by
  rw [deadP_eq h hl] at hd
  simpa using hd
end Go.Proofs.Ytahefjfkfmoplaa
