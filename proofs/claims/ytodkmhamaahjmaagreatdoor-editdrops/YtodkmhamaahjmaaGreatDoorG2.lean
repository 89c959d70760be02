/- Texts joined: PRng, PInd. -/
import Derived.Test.YtodkmhamaahjmaaGreatDoorTab
/- Slots that turn in a loop, a run of them at once. -/
set_option maxRecDepth 10000
namespace Go.Proofs.YtodkmhamaahjmaaGreatDoor
open Go.Tm
def rng (a : Nat) : Nat → List Nat
  | 0 => []
  | n + 1 => a :: rng (a + 1) n
theorem mem_rng {k : Nat} : ∀ {n a : Nat}, mem k (rng a n) = (decide (a ≤ k) && decide (k < a + n))
  | 0, a => by
    rw [show mem k (rng a 0) = false from rfl]
    by_cases h : a ≤ k
    · rw [decide_eq_false (p := k < a + 0) (by omega), Bool.and_false]
    · rw [decide_eq_false h, Bool.false_and]
  | n + 1, a => by
    rw [show mem k (rng a (n + 1)) = (k == a || mem k (rng (a + 1) n)) from rfl, mem_rng]
    by_cases h : k = a
    · subst h
      simp
    · rw [beq_eq_false_iff_ne.2 h, Bool.false_or]
      by_cases h2 : a ≤ k
      · rw [decide_eq_true (p := a + 1 ≤ k) (by omega), decide_eq_true h2, decide_eq_decide.2 (show k < a + 1 + n ↔ k < a + (n + 1) by omega)]
      · rw [decide_eq_false (p := a + 1 ≤ k) (by omega), decide_eq_false h2, Bool.false_and, Bool.false_and]
/-- Some slots, and n from a on. -/
def Dn (l : List Nat) (a n : Nat) : List Nat := l ++ rng a n
theorem mem_app {k : Nat} : ∀ {l m : List Nat}, mem k (l ++ m) = (mem k l || mem k m)
  | [], _ => rfl
  | a :: l, m => by
    show (k == a || mem k (l ++ m)) = ((k == a || mem k l) || mem k m)
    rw [mem_app, Bool.or_assoc]
theorem mem_Dn {k a n : Nat} {l : List Nat} : mem k (Dn l a n) = (mem k l || (decide (a ≤ k) && decide (k < a + n))) := by rw [Dn, mem_app, mem_rng]
theorem inL_Dn {l E : List Nat} {a n b m : Nat} (h1 : b ≤ a) (h2 : a + n ≤ b + m) : inL (Dn l a n) (Dn E b m) = inL l (Dn E b m) := by
  have : inL (rng a n) (Dn E b m) = true := by
    rw [inL, List.all_eq_true]
    intro k hk
    have hm : ∀ {n a : Nat}, k ∈ rng a n → a ≤ k ∧ k < a + n := by
      intro n
      induction n with
      | zero => intro a h; cases h
      | succ n ih =>
        intro a h
        rcases List.mem_cons.1 h with e | e
        · omega
        · have := ih e
          omega
    have := hm hk
    rw [mem_Dn, decide_eq_true (p := b ≤ k) (by omega), decide_eq_true (p := k < b + m) (by omega)]
    simp
  rw [Dn, inL, List.all_append]
  show (inL l _ && inL (rng a n) _) = _
  rw [this, Bool.and_true]
attribute [simp] mem_Dn inL_Dn
end Go.Proofs.YtodkmhamaahjmaaGreatDoor

/- A quicker test of operations that keep out of each other's way: closures as bits of numbers. -/
set_option maxRecDepth 10000
namespace Go.Proofs.YtodkmhamaahjmaaGreatDoor
open Go.Tm
/-- The bits of some numbers and of what leads to them. -/
def orE (ms : List Nat) : List Nat → Nat
  | [] => 0
  | e :: es => orE ms es ||| (2 ^ e ||| ms.getD e 0)
def cloM : List Oper → List Nat → Option (List Nat)
  | [], acc => some acc
  | o :: r, acc => if (edges o).all (fun e => decide (e < acc.length)) then cloM r (acc ++ [orE acc (edges o)]) else none
def Rel (cl : List (List Nat)) (ms : List Nat) : Prop := cl.length = ms.length ∧ ∀ j i, (ms.getD j 0).testBit i = (cl.getD j []).contains i
theorem orE_bit {cl : List (List Nat)} {ms : List Nat} (h : Rel cl ms) (i : Nat) : ∀ es : List Nat, (orE ms es).testBit i = (es ++ (es.map fun e => cl.getD e []).flatten).contains i
  | [] => by simp [orE]
  | e :: es => by
    rw [orE, Nat.testBit_or, Nat.testBit_or, orE_bit h i es, h.2 e i, Nat.testBit_two_pow]
    simp only [List.cons_append, List.contains_cons, List.map_cons, List.flatten_cons, List.contains_append]
    cases hh : decide (e = i) with
    | true =>
      have : e = i := of_decide_eq_true hh
      subst this
      simp
    | false =>
      have : ¬ i = e := fun e2 => by rw [e2] at hh; simp at hh
      rw [beq_eq_false_iff_ne.2 this]
      cases (es.contains i) <;> cases ((es.map fun e => cl.getD e []).flatten.contains i) <;> cases ((cl.getD e []).contains i) <;> rfl
theorem clo_rel : ∀ (l : List Oper) {acc : List (List Nat)} {ms : List Nat}, Rel acc ms → match clo l acc, cloM l ms with | some a, some b => Rel a b | none, none => True | _, _ => False
  | [], acc, ms, h => h
  | o :: r, acc, ms, h => by
    have e1 : ((edges o).all fun e => decide (e < acc.length)) = ((edges o).all fun e => decide (e < ms.length)) := by rw [h.1]
    have k1 : clo (o :: r) acc = if ((edges o).all fun e => decide (e < acc.length)) = true then clo r (acc ++ [edges o ++ ((edges o).map fun e => acc.getD e []).flatten]) else none := rfl
    have k2 : cloM (o :: r) ms = if ((edges o).all fun e => decide (e < ms.length)) = true then cloM r (ms ++ [orE ms (edges o)]) else none := rfl
    rw [k1, k2, e1]
    by_cases hc : ((edges o).all fun e => decide (e < ms.length)) = true
    · rw [if_pos hc, if_pos hc]
      refine clo_rel r ⟨by simp [h.1], fun j i => ?_⟩
      by_cases hj : j < ms.length
      · have hj2 : j < acc.length := by have := h.1; omega
        rw [List.getD_eq_getElem?_getD, List.getD_eq_getElem?_getD, List.getElem?_append_left hj, List.getElem?_append_left hj2, ← List.getD_eq_getElem?_getD, ← List.getD_eq_getElem?_getD]
        exact h.2 j i
      · by_cases hj3 : j = ms.length
        · have hj4 : j = acc.length := by rw [h.1]; exact hj3
          rw [List.getD_eq_getElem?_getD, List.getD_eq_getElem?_getD, List.getElem?_append_right (by omega), List.getElem?_append_right (by omega), hj3, h.1]
          simp only [Nat.sub_self, List.getElem?_cons_zero, Option.getD_some]
          exact orE_bit h i _
        · rw [List.getD_eq_getElem?_getD, List.getD_eq_getElem?_getD, List.getElem?_eq_none (by simp; omega), List.getElem?_eq_none (by have := h.1; simp; omega)]
          simp
    · rw [if_neg hc, if_neg hc]
      trivial
def pairM (ms : List Nat) (tr : Tr) (i j : Nat) : Bool :=
  (ms.getD j 0).testBit i ||
    (Go.Tm.apart (tr.getD i ([], [])).2 (tr.getD j ([], [])).1 && Go.Tm.apart (tr.getD i ([], [])).2 (tr.getD j ([], [])).2 && Go.Tm.apart (tr.getD i ([], [])).1 (tr.getD j ([], [])).2)
def indepM (ops : Array Oper) (tr : Tr) : Bool :=
  match cloM ops.toList [] with
  | some ms => (List.range ops.size).all fun j => (List.range j).all fun i => pairM ms tr i j
  | none => false
theorem indep_fast {ops : Array Oper} {tr : Tr} (h : indepM ops tr = true) : Indep ops tr := by
  have hr := clo_rel ops.toList (acc := []) (ms := []) ⟨rfl, fun j i => by simp⟩
  unfold Indep indep
  unfold indepM at h
  cases h2 : cloM ops.toList [] with
  | none => rw [h2] at h; cases h
  | some ms =>
    rw [h2] at h hr
    cases h1 : clo ops.toList [] with
    | none => rw [h1] at hr; exact hr.elim
    | some cl =>
      rw [h1] at hr
      have e : ∀ i j, pairOK cl tr i j = pairM ms tr i j := fun i j => by
        unfold pairOK pairM
        rw [hr.2]
      simp only [e]
      exact h
end Go.Proofs.YtodkmhamaahjmaaGreatDoor
