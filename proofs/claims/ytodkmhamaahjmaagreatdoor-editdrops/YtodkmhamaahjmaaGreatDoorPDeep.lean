/- Chains of folders are short: plain terms. -/
import Derived.Test.YtodkmhamaahjmaaGreatDoorG10
set_option maxRecDepth 10000
set_option linter.unusedSimpArgs false
set_option linter.unusedVariables false
namespace Go.Proofs.YtodkmhamaahjmaaGreatDoor
open Go.Tm Go.IntWalk
theorem nodup_le : ∀ (n : Nat) {l : List Int}, l.Nodup → (∀ x ∈ l, 1 ≤ x ∧ x ≤ n) → l.length ≤ n
  | 0, [], _, _ => Nat.le_refl _
  | 0, x :: l, _, h => by have := h x (by simp); omega
  | n + 1, l, hn, h => by
    by_cases hm : ((n + 1 : Nat) : Int) ∈ l
    · have := nodup_le n (l := l.erase ((n + 1 : Nat) : Int)) (hn.erase _) (fun x hx => by
        obtain ⟨h1, h2⟩ := (hn.mem_erase_iff).1 hx
        have := h x h2
        omega)
      rw [List.length_erase_of_mem hm] at this
      omega
    · have := nodup_le n hn (fun x hx => by
        have h1 := h x hx
        have : x ≠ ((n + 1 : Nat) : Int) := fun e => hm (by rw [← e]; exact hx)
        omega)
      omega
theorem deep_chain {t : List Node} (h9 : t.length = 9) : ∀ (k : Nat) {i : Int}, Deep t (k + 1) i → ¬ Deep t k i → ∃ l : List Int, l.length = k ∧ l.Nodup ∧ ∀ x ∈ l, (1 ≤ x ∧ x ≤ 9) ∧ Deep t k x
  | 0, _, _, _ => ⟨[], rfl, List.Pairwise.nil, fun x hx => by cases hx⟩
  | k + 1, i, h, hn => by
    have hex : ∃ e ∈ namesT t i, e.2.1 ≤ (t.length : Int) ∧ kindT t e.2.1 = 2 ∧ ¬ Deep t k e.2.1 := Classical.byContradiction fun hc => hn fun e he hl hk => Classical.byContradiction fun hd => hc ⟨e, he, hl, hk, hd⟩
    obtain ⟨e, he, hl, hk, hd⟩ := hex
    have hde := h e he hl hk
    obtain ⟨l, h1, h2, h3⟩ := deep_chain h9 k hde hd
    have hr := (okE_out (namesT_ok he)).2
    refine ⟨e.2.1 :: l, by rw [List.length_cons, h1], List.nodup_cons.2 ⟨fun hm => hd (h3 _ hm).2, h2⟩, fun x hx => ?_⟩
    rcases List.mem_cons.1 hx with rfl | hx
    · exact ⟨hr, hde⟩
    · exact ⟨(h3 x hx).1, (h3 x hx).2.more⟩
theorem deep_ten {t : List Node} (h9 : t.length = 9) {i : Int} (h : endsT t i) : Deep t 10 i := by
  obtain ⟨k, hk⟩ := h
  induction k with
  | zero => exact hk.elim
  | succ k ih =>
    by_cases hd : Deep t k i
    · exact ih hd
    · obtain ⟨l, h1, h2, h3⟩ := deep_chain h9 k hk hd
      have := nodup_le 9 h2 (fun x hx => (h3 x hx).1)
      exact hk.le (by omega)
end Go.Proofs.YtodkmhamaahjmaaGreatDoor
