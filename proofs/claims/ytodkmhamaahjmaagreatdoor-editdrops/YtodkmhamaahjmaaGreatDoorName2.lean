/- name: plain laws of ways. -/
import Derived.Test.YtodkmhamaahjmaaGreatDoorName1
set_option maxRecDepth 10000
set_option maxHeartbeats 1000000
set_option linter.unusedSimpArgs false
set_option linter.unusedVariables false
set_option pp.deepTerms.threshold 14
namespace Go.Proofs.YtodkmhamaahjmaaGreatDoor
open Go.Tm Go.IntWalk
theorem join_split : ∀ r : List UInt8, Lib.join (splitB r) [47] = r
  | [] => rfl
  | c :: r => by
    have ih := join_split r
    rw [splitB]
    split
    · rename_i hc
      subst hc
      obtain ⟨a, t, e⟩ : ∃ a t, splitB r = a :: t := by
        cases h : splitB r with
        | nil => exact absurd h (splitB_ne r)
        | cons a t => exact ⟨a, t, rfl⟩
      rw [e, Lib.join_cons] at ih ⊢
      rw [Lib.joinTail, List.map_cons, List.flatten_cons, List.nil_append, List.append_assoc, ← Lib.joinTail, ih]
      rfl
    · split
      · rename_i a t e
        rw [e, Lib.join_cons] at ih
        rw [Lib.join_cons, List.cons_append, ih]
      · rename_i e
        exact absurd e (splitB_ne r)
theorem split_app {x : List UInt8} (h : ∀ c ∈ x, c ≠ 47) : ∀ (r : List UInt8), splitB (x ++ 47 :: r) = x :: splitB r := by
  induction x with
  | nil => intro r; rw [List.nil_append, splitB, if_pos rfl]
  | cons c x ih =>
    intro r
    have hc := h c (List.mem_cons_self ..)
    rw [List.cons_append, splitB, if_neg hc, ih fun d hd => h d (List.mem_cons_of_mem _ hd)]
theorem split_one' {x : List UInt8} (h : ∀ c ∈ x, c ≠ 47) : splitB x = [x] := by
  induction x with
  | nil => rfl
  | cons c x ih =>
    rw [splitB, if_neg (h c (List.mem_cons_self ..)), ih fun d hd => h d (List.mem_cons_of_mem _ hd)]
theorem split_join : ∀ {l : List (List UInt8)}, l ≠ [] → (∀ x ∈ l, ∀ c ∈ x, c ≠ 47) → splitB (Lib.join l [47]) = l
  | [], h, _ => absurd rfl h
  | [x], _, h => by rw [Lib.join_one, split_one' (h x (List.mem_cons_self ..))]
  | x :: y :: l, _, h => by
    have ih := split_join (l := y :: l) (by simp) fun z hz => h z (List.mem_cons_of_mem _ hz)
    rw [Lib.join_cons] at ih ⊢
    rw [Lib.joinTail, List.map_cons, List.flatten_cons, List.append_assoc, ← Lib.joinTail]
    have e : x ++ ([47] ++ (y ++ Lib.joinTail [47] l)) = x ++ 47 :: (y ++ Lib.joinTail [47] l) := rfl
    rw [e, split_app (h x (List.mem_cons_self ..)), ih]
theorem own_slash {s : ByteArray} (h : ownS s = true) : ∀ c ∈ bl s, c ≠ 47 := by
  intro c hc e
  unfold ownS at h
  simp only [Bool.and_eq_true, List.all_eq_true] at h
  have := h.1.1 c hc
  subst e
  exact absurd this (by decide)
theorem pathS_bl (l : List ByteArray) : bl (pathS l) = 47 :: Lib.join (l.map bl) [47] := by
  unfold pathS
  rw [bl_append]
  simp [joinS, bl]
/-- The parts of a way that was made of parts. -/
theorem parts_path {l : List ByteArray} {own : Bool} (h : ∀ x ∈ l, partOK own x = true) : partsS (pathS l) own = if l.length ≤ 8 then (l, true) else ([], false) := by
  have hb := pathS_bl l
  cases l with
  | nil => rw [partsS_root (by rw [hb]; rfl)]; rfl
  | cons x l =>
    have hown : ∀ y ∈ x :: l, ownS y = true := fun y hy => by
      have := h y hy
      unfold partOK at this
      rw [Bool.and_eq_true] at this
      exact this.1
    have hs : splitB (Lib.join ((x :: l).map bl) [47]) = (x :: l).map bl := split_join (by simp) fun z hz => by
      obtain ⟨y, hy, rfl⟩ := List.mem_map.1 hz
      exact own_slash (hown y hy)
    have hne : Lib.join ((x :: l).map bl) [47] ≠ [] := by
      intro e
      have := (ownS_size (hown x (List.mem_cons_self ..))).1
      rw [bl_size] at this
      rw [List.map_cons, Lib.join_cons] at e
      have h2 := (List.append_eq_nil_iff.1 e).1
      rw [h2] at this
      exact absurd this (by decide)
    rw [partsS_way hb hne, hs, List.length_map]
    have hall : ∀ z ∈ (x :: l).map bl, partOK own (ofL z) = true := fun z hz => by
      obtain ⟨y, hy, rfl⟩ := List.mem_map.1 hz
      rw [ofL_bl]; exact h y hy
    by_cases h8 : (x :: l).length ≤ 8
    · rw [if_pos ⟨h8, hall⟩, if_pos h8, map_of rfl]
    · rw [if_neg (fun h => h8 h.1), if_neg h8]
/-- What is a way's parts is that way. -/
theorem path_parts {s : ByteArray} {own : Bool} (h : (partsS s own).2 = true) : pathS (partsS s own).1 = s := by
  apply bl_inj
  rw [pathS_bl]
  by_cases h0 : bl s = [47]
  · rw [partsS_root h0, h0]; rfl
  · cases hb : bl s with
    | nil => rw [partsS_other (fun r e => by rw [hb] at e; cases e)] at h; cases h
    | cons c r =>
      by_cases hc : c = 47
      · subst hc
        have hr : r ≠ [] := fun e => h0 (by rw [hb, e])
        rw [partsS_way hb hr] at h ⊢
        split
        · rename_i hx
          simp only [List.map_map]
          rw [show (bl ∘ ofL) = id from by funext z; simp, List.map_id, join_split]
        · rename_i hx
          rw [if_neg hx] at h; cases h
      · rw [partsS_other (fun r e => by rw [hb] at e; injection e with e; exact hc e)] at h
        cases h
theorem parts_ok {s : ByteArray} {own : Bool} : (partsS s own).1.length ≤ 8 ∧ ∀ x ∈ (partsS s own).1, partOK own x = true := by
  by_cases h0 : bl s = [47]
  · rw [partsS_root h0]; exact ⟨Nat.zero_le _, fun x hx => by cases hx⟩
  · by_cases hb : ∃ r, bl s = 47 :: r
    · obtain ⟨r, hb⟩ := hb
      have hr : r ≠ [] := fun e => h0 (by rw [hb, e])
      rw [partsS_way hb hr]
      split
      · rename_i hx
        refine ⟨by rw [List.length_map]; exact hx.1, fun x hx2 => ?_⟩
        obtain ⟨y, hy, rfl⟩ := List.mem_map.1 hx2
        exact hx.2 y hy
      · exact ⟨Nat.zero_le _, fun x hx => by cases hx⟩
    · rw [partsS_other fun r e => hb ⟨r, e⟩]
      exact ⟨Nat.zero_le _, fun x hx => by cases hx⟩
theorem part_small {own : Bool} {l : List ByteArray} (h : ∀ x ∈ l, partOK own x = true) : smallL l := fun x hx => by
  have := h x hx
  unfold partOK at this
  rw [Bool.and_eq_true] at this
  have := ownS_size this.1
  omega
def sameT (a b : List ByteArray) : Bool := decide (a = b)
theorem sameT_no {a b : List ByteArray} (h : ¬ a = b) : sameT a b = false := decide_eq_false h
theorem sameT_yes {a b : List ByteArray} (h : a = b) : sameT a b = true := decide_eq_true h
end Go.Proofs.YtodkmhamaahjmaaGreatDoor
