/- diff: what went and what came, counted. -/
import Derived.Test.YtahefjfkfmoplaaDiff6
set_option maxRecDepth 10000
set_option linter.unusedSimpArgs false
set_option linter.unusedVariables false
namespace Go.Proofs.Ytahefjfkfmoplaa
open Go.Tm Go.IntWalk

theorem toEn_inj {i : Int} {e f : Ent} (h : toEn i e = toEn i f) : e = f := by
  simp only [toEn, Prod.mk.injEq] at h
  exact Prod.ext h.2.1 (Prod.ext h.2.2.1 rfl)
theorem rises_nodup {l : List Ent} (h : Rises l) : l.Nodup := h.imp fun {a b} hab e => by rw [e, ltB_irrefl] at hab; cases hab
theorem names_nodup {t : List Node} {i : Int} : (namesT t i).Nodup := by
  unfold namesT
  split
  · exact List.nodup_nil
  · rcases takeD_cases (bodyT t i) with ⟨l, hl⟩ | hl <;> rw [hl]
    · exact rises_nodup (takeD_iff.1 hl).1.2.1
    · exact List.nodup_nil
theorem entN_nodup (t : List Node) : ∀ n, (entN t n).Nodup
  | 0 => by simp [entN]
  | n + 1 => by
    rw [entN_succ]
    refine List.nodup_append.2 ⟨entN_nodup t n, ?_, fun a ha b hb e => ?_⟩
    · exact List.Pairwise.map (R := fun a b => a ≠ b) _ (fun a b hab e => hab (toEn_inj e)) names_nodup
    · obtain ⟨k, x, hk, _, rfl⟩ := entN_mem ha
      obtain ⟨y, _, rfl⟩ := List.mem_map.1 hb
      injection e with e _
      omega
/-- As many of the one are kept as of the other. -/
theorem kept_len {t u : List Node} (ht : GoodT t) (hu : GoodT u) : ((entD t).filter (keptD ((t, ()), (u, ()), ()) (entD u))).length = ((entD u).filter (keptD ((u, ()), (t, ()), ()) (entD t))).length := by
  refine List.Perm.length_eq ((List.perm_ext_iff_of_nodup ((entN_nodup t _).filter _) ((entN_nodup u _).filter _)).2 fun e => ?_)
  have sym : ∀ {t u : List Node} {n : Int}, sameD ((t, ()), (u, ()), ()) n = true → sameD ((u, ()), (t, ()), ()) n = true := fun h => by
    simp only [sameD, Bool.and_eq_true, decide_eq_true_eq] at h ⊢
    exact ⟨fun h0 => h.1 (h.2.trans h0), h.2.symm⟩
  have one : ∀ {t u : List Node}, e ∈ (entD t).filter (keptD ((t, ()), (u, ()), ()) (entD u)) → e ∈ (entD u).filter (keptD ((u, ()), (t, ()), ()) (entD t)) := fun {t u} h => by
    obtain ⟨h1, h2⟩ := List.mem_filter.1 h
    simp only [keptD, Bool.and_eq_true] at h2
    obtain ⟨x, hx, hxs⟩ := List.any_eq_true.1 h2.2
    have e2 : e = x := same_eq (t := EnT) (by decide) hxs
    refine List.mem_filter.2 ⟨by rw [e2]; exact hx, ?_⟩
    simp only [keptD, Bool.and_eq_true]
    exact ⟨⟨sym h2.1.1, sym h2.1.2⟩, List.any_eq_true.2 ⟨e, h1, same_refl (t := EnT) (by decide) e⟩⟩
  exact ⟨one, one⟩
theorem gone_len (t u : List Node) : (goneD t u).length + ((entD t).filter (keptD ((t, ()), (u, ()), ()) (entD u))).length = (entD t).length := by
  unfold goneD
  generalize keptD ((t, ()), (u, ()), ()) (entD u) = p
  induction entD t with
  | nil => rfl
  | cons e l ih =>
    cases h : p e <;> simp [h] <;> omega
def S9 (f : Int → Nat) : Nat := f 1 + f 2 + f 3 + f 4 + f 5 + f 6 + f 7 + f 8 + f 9
theorem names_split : ∀ {l : List Ent}, (∀ e ∈ l, 1 ≤ e.2.1 ∧ e.2.1 ≤ 9) → l.length = S9 (cntE l)
  | [], _ => rfl
  | e :: l, h => by
    have ih := names_split (l := l) fun x hx => h x (by simp [hx])
    obtain ⟨h1, h2⟩ := h e (by simp)
    have c : ∀ i : Int, cntE (e :: l) i = cntE l i + if e.2.1 = i then 1 else 0 := fun i => by
      unfold cntE
      rw [List.countP_cons]
      congr 1
      by_cases hi : (e.2.1 : Int) = i <;> simp [hi]
    rw [List.length_cons, ih]
    unfold S9
    rw [c, c, c, c, c, c, c, c, c]
    generalize (e.2.1 : Int) = x at h1 h2
    rcases (show x = 1 ∨ x = 2 ∨ x = 3 ∨ x = 4 ∨ x = 5 ∨ x = 6 ∨ x = 7 ∨ x = 8 ∨ x = 9 by omega) with r | r | r | r | r | r | r | r | r <;> subst r <;> simp <;> omega
theorem ent_count (t : List Node) : ∀ n, (entN t n).length = S9 fun i => cntT t i n
  | 0 => by simp [entN, S9, cntT]
  | n + 1 => by
    have ih := ent_count t n
    have c : ∀ i : Int, cntT t i (n + 1) = cntT t i n + cntE (namesT t ((n + 1 : Nat) : Int)) i := fun i => by
      unfold cntT
      rw [List.range_succ, List.map_append, List.sum_append]
      simp
    have hn := names_split (l := namesT t ((n + 1 : Nat) : Int)) fun e he => (okE_out (namesT_ok he)).2
    rw [entN_succ, List.length_append, ih, entAt, List.length_map, hn]
    simp only [S9, c]
    omega
def sumL (t : List Node) : Nat → Int
  | 0 => 0
  | n + 1 => sumL t n + if 2 ≤ n then linksT t n else 0
theorem ent_links {t : List Node} (h : GoodT t) : ((entD t).length : Int) = sumL t 10 := by
  have h9 := h.len
  have hc := ent_count t t.length
  have h0 := h.rootless
  have l : ∀ n : Nat, n ≠ 1 → linksT t n = (cntT t n 9 : Int) := fun n hn => by
    unfold linksT
    rw [if_neg (by omega), h9]
  have e : sumL t 10 = (linksT t 2 + linksT t 3 + linksT t 4 + linksT t 5 + linksT t 6 + linksT t 7 + linksT t 8 + linksT t 9) := by
    simp [sumL]
  have l2 : linksT t 2 = (cntT t 2 9 : Int) := l 2 (by decide)
  have l3 : linksT t 3 = (cntT t 3 9 : Int) := l 3 (by decide)
  have l4 : linksT t 4 = (cntT t 4 9 : Int) := l 4 (by decide)
  have l5 : linksT t 5 = (cntT t 5 9 : Int) := l 5 (by decide)
  have l6 : linksT t 6 = (cntT t 6 9 : Int) := l 6 (by decide)
  have l7 : linksT t 7 = (cntT t 7 9 : Int) := l 7 (by decide)
  have l8 : linksT t 8 = (cntT t 8 9 : Int) := l 8 (by decide)
  have l9 : linksT t 9 = (cntT t 9 9 : Int) := l 9 (by decide)
  rw [e, l2, l3, l4, l5, l6, l7, l8, l9]
  show ((entN t t.length).length : Int) = _
  rw [hc]
  unfold S9
  simp only
  rw [h9, h0]
  omega
theorem links_range {t : List Node} (h : GoodT t) (n : Nat) : 0 ≤ linksT t n ∧ linksT t n ≤ 1000 := by
  have h9 := h.len
  unfold linksT
  split
  · omega
  · have : ∀ m, cntT t n m ≤ 40 * m := fun m => by
      induction m with
      | zero => simp [cntT]
      | succ m ih =>
        have c : cntT t n (m + 1) = cntT t n m + cntE (namesT t ((m + 1 : Nat) : Int)) n := by
          unfold cntT
          rw [List.range_succ, List.map_append, List.sum_append]
          simp
        have := namesT_len t ((m + 1 : Nat) : Int)
        have h2 : cntE (namesT t ((m + 1 : Nat) : Int)) n ≤ (namesT t ((m + 1 : Nat) : Int)).length := List.countP_le_length
        omega
    have := this t.length
    omega
theorem sumL_range {t : List Node} (h : GoodT t) : ∀ n : Nat, 0 ≤ sumL t n ∧ sumL t n ≤ 1000 * n
  | 0 => ⟨Int.le_refl _, Int.le_refl _⟩
  | n + 1 => by
    have ih := sumL_range h n
    have l := links_range h n
    unfold sumL
    split <;> omega
end Go.Proofs.Ytahefjfkfmoplaa
