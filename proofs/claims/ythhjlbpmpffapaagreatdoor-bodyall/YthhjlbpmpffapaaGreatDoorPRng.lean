/- Slots that turn in a loop, a run of them at once. -/
import Derived.Test.YthhjlbpmpffapaaGreatDoorTab
set_option maxRecDepth 10000
namespace Go.Proofs.YthhjlbpmpffapaaGreatDoor
open Go.Tm
def rng (a : Nat) : Nat → List Nat
  | 0 => []
  | n + 1 => a :: rng (a + 1) n
theorem mem_rng {k : Nat} : ∀ {n a : Nat}, mem k (rng a n) = (decide (a ≤ k) && decide (k < a + n))
  | 0, a => by
    rw [show mem k (rng a 0) = false from rfl]
    by_cases h : a ≤ k
    · rw [decide_eq_false (p := k < a + 0) (by omega), Bool.and_false]
    · rw [decide_eq_false h, Bool.false_and]
  | n + 1, a => by
    rw [show mem k (rng a (n + 1)) = (k == a || mem k (rng (a + 1) n)) from rfl, mem_rng]
    by_cases h : k = a
    · subst h
      simp
    · rw [beq_eq_false_iff_ne.2 h, Bool.false_or]
      by_cases h2 : a ≤ k
      · rw [decide_eq_true (p := a + 1 ≤ k) (by omega), decide_eq_true h2, decide_eq_decide.2 (show k < a + 1 + n ↔ k < a + (n + 1) by omega)]
      · rw [decide_eq_false (p := a + 1 ≤ k) (by omega), decide_eq_false h2, Bool.false_and, Bool.false_and]
/-- Some slots, and n from a on. -/
def Dn (l : List Nat) (a n : Nat) : List Nat := l ++ rng a n
theorem mem_app {k : Nat} : ∀ {l m : List Nat}, mem k (l ++ m) = (mem k l || mem k m)
  | [], _ => rfl
  | a :: l, m => by
    show (k == a || mem k (l ++ m)) = ((k == a || mem k l) || mem k m)
    rw [mem_app, Bool.or_assoc]
theorem mem_Dn {k a n : Nat} {l : List Nat} : mem k (Dn l a n) = (mem k l || (decide (a ≤ k) && decide (k < a + n))) := by rw [Dn, mem_app, mem_rng]
theorem inL_Dn {l E : List Nat} {a n b m : Nat} (h1 : b ≤ a) (h2 : a + n ≤ b + m) : inL (Dn l a n) (Dn E b m) = inL l (Dn E b m) := by
  have : inL (rng a n) (Dn E b m) = true := by
    rw [inL, List.all_eq_true]
    intro k hk
    have hm : ∀ {n a : Nat}, k ∈ rng a n → a ≤ k ∧ k < a + n := by
      intro n
      induction n with
      | zero => intro a h; cases h
      | succ n ih =>
        intro a h
        rcases List.mem_cons.1 h with e | e
        · omega
        · have := ih e
          omega
    have := hm hk
    rw [mem_Dn, decide_eq_true (p := b ≤ k) (by omega), decide_eq_true (p := k < b + m) (by omega)]
    simp
  rw [Dn, inL, List.all_append]
  show (inL l _ && inL (rng a n) _) = _
  rw [this, Bool.and_true]
attribute [simp] mem_Dn inL_Dn
end Go.Proofs.YthhjlbpmpffapaaGreatDoor
