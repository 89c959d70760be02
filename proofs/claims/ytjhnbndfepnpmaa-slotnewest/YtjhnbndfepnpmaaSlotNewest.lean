import Derived.Test.YtjhnbndfepnpmaaSlot4
set_option maxRecDepth 10000
set_option maxHeartbeats 2000000
set_option linter.unusedSimpArgs false
set_option linter.unusedVariables false
set_option pp.deepTerms.threshold 12
namespace Go.Proofs.Ytjhnbndfepnpmaa
open Go.Tm Go.IntWalk
/-- What is known of the newest of some texts. -/
def nwHas (l : List ByteArray) : Bool := l.any fun t => (takeSl t).2
theorem nwHas_take (l : List ByteArray) {i : Nat} (h : i < l.length) : nwHas (l.take (i + 1)) = (nwHas (l.take i) || (takeSl ((l[i]?).getD no)).2) := by
  unfold nwHas
  rw [List.take_succ_eq_append_getElem h, List.any_append, List.getElem?_eq_getElem h]
  simp
theorem nw_has (l : List ByteArray) : (nw l).2 = nwHas l := by
  have : ∀ i, i ≤ l.length → (nw (l.take i)).2 = nwHas (l.take i) := by
    intro i
    induction i with
    | zero => intro _; rfl
    | succ i ih =>
      intro h
      rw [nw_take l h, nwHas_take l h, ← ih (by omega)]
      generalize (l[i]?).getD no = t
      cases h1 : (takeSl t).2 with
      | false => rw [nw_no h1, Bool.or_false]
      | true =>
        rw [Bool.or_true]
        cases h2 : (nw (l.take i)).2 with
        | false => rw [nw_first h1 h2]
        | true =>
          by_cases h3 : (nw (l.take i)).1.1 < (takeSl t).1.1
          · rw [nw_gt h1 h3]
          · rw [nw_le h2 h3, h2]
  have h := this l.length (Nat.le_refl _)
  rwa [List.take_length] at h
/-- The newest is one of them, and none is newer. -/
theorem nw_best (l : List ByteArray) : ∀ i, i ≤ l.length → ((nw (l.take i)).2 = true → ∃ k, k < i ∧ takeSl ((l[k]?).getD no) = nw (l.take i)) ∧ (∀ k, k < i → (takeSl ((l[k]?).getD no)).2 = true → (nw (l.take i)).2 = true ∧ (takeSl ((l[k]?).getD no)).1.1 ≤ (nw (l.take i)).1.1) ∧ ((nw (l.take i)).2 = false → nw (l.take i) = (noSl, false)) := by
  intro i
  induction i with
  | zero => exact fun _ => ⟨fun h => (by cases h), fun k hk => absurd hk (Nat.not_lt_zero _), fun _ => rfl⟩
  | succ i ih =>
    intro h
    obtain ⟨i1, i2, i3⟩ := ih (by omega)
    rw [nw_take l h]
    obtain ⟨t, ht⟩ : ∃ t, (l[i]?).getD no = t := ⟨_, rfl⟩
    obtain ⟨a, ha⟩ : ∃ a, nw (l.take i) = a := ⟨_, rfl⟩
    rw [ha] at i1 i2 i3 ⊢
    rw [ht]
    have split : ∀ {p : Nat → Prop}, (∀ k, k < i → p k) → p i → ∀ k, k < i + 1 → p k := fun h1 h2 k hk => by
      rcases Nat.lt_or_ge k i with h3 | h3
      · exact h1 k h3
      · obtain rfl : k = i := by omega
        exact h2
    cases h1 : (takeSl t).2 with
    | false =>
      rw [nw_no h1]
      refine ⟨fun h2 => ?_, split i2 fun h2 => ?_, i3⟩
      · obtain ⟨k, hk, e⟩ := i1 h2
        exact ⟨k, by omega, e⟩
      · rw [ht, h1] at h2; cases h2
    | true =>
      have et : takeSl t = ((takeSl t).1, true) := Prod.ext rfl h1
      cases h2 : a.2 with
      | false =>
        rw [nw_first h1 h2]
        refine ⟨fun _ => ⟨i, by omega, by rw [ht]; exact et⟩, split (fun k hk h3 => ?_) fun _ => ⟨rfl, ?_⟩, fun h => by cases h⟩
        · have := (i2 k hk h3).1
          rw [h2] at this; cases this
        · rw [ht]; exact Int.le_refl _
      | true =>
        by_cases h3 : a.1.1 < (takeSl t).1.1
        · rw [nw_gt h1 h3]
          refine ⟨fun _ => ⟨i, by omega, by rw [ht]; exact et⟩, split (fun k hk h4 => ⟨rfl, ?_⟩) fun _ => ⟨rfl, ?_⟩, fun h => by cases h⟩
          · have := (i2 k hk h4).2
            exact Int.le_trans this (Int.le_of_lt h3)
          · rw [ht]; exact Int.le_refl _
        · rw [nw_le h2 h3]
          refine ⟨fun h4 => ?_, split i2 fun _ => ⟨h2, ?_⟩, fun h => by rw [h2] at h; cases h⟩
          · obtain ⟨k, hk, e⟩ := i1 h4
            exact ⟨k, by omega, e⟩
          · rw [ht]; exact Int.not_lt.1 h3
/-- Whether the newest is among the first. -/
def nwAmong (l : List ByteArray) (z : Sl) : Bool := l.any fun t => (takeSl t).2 && same SlT (takeSl t).1 z
theorem nwAmong_take (l : List ByteArray) (z : Sl) {i : Nat} (h : i < l.length) : nwAmong (l.take (i + 1)) z = (nwAmong (l.take i) z || ((takeSl ((l[i]?).getD no)).2 && same SlT (takeSl ((l[i]?).getD no)).1 z)) := by
  unfold nwAmong
  rw [List.take_succ_eq_append_getElem h, List.any_append, List.getElem?_eq_getElem h]
  simp
def ΓslotNewest : Cons := cons [(6, sbegunC), (12, stakeC), (14, snewestC), (11, slotsC)]
theorem ΓslotNewest_ok : ConsOK Try.prog ΓslotNewest := (consOK_cons sbegun_ok (consOK_cons stake_ok (consOK_cons snewest_ok (consOK_cons slots_ok consOK_nil))))
theorem slotNewest_ex : LawEx tab ΓslotNewest Try.f4 [.slice (.int .u16)] := by
  intro l h1 h2
  obtain ⟨l, l1, rfl, e1⟩ := types_cons h1
  obtain rfl := types_nil e1
  clear h1 e1
  have g_sbegun : ΓslotNewest 6 = some sbegunC := rfl
  have g_stake : ΓslotNewest 12 = some stakeC := rfl
  have g_snewest : ΓslotNewest 14 = some snewestC := rfl
  have g_slots : ΓslotNewest 11 = some slotsC := rfl
  clear h2
  simp only [Try.f4, Option.getD_some]
  simp (implicitDefEqProofs := false) (decide := true) (maxSteps := 4000000) [ini, g_sbegun, sbegunC_eq, g_stake, stakeC_eq, g_snewest, snewestC_eq, g_slots, slotsC_eq]
  intro _ hl m
  refine ⟨by omega, fun m1 => ?_⟩
  generalize slotsL l = L
  refine ex_loopU (σ := Nat) [2, 6, 7, 8, 9, 10, 23, 24, 25, 26, 27, 28, 29, 30, 31, 32, 33, 34, 35, 36, 37, 38, 39, 40, 41, 42, 43, 44, 45, 46, 47, 48, 49] (fun a => [(8, .val (.int .i64) (a : Int)), (7, .val .bool (nwHas (L.take a))), (6, .val .bool (nwAmong (L.take a) (nw L).1))]) (fun a => a ≤ L.length) (fun a => L.length - a) 0 (by simp) (hc rfl (hc rfl (hc rfl hn))) ?_
  rintro j i hi
  simp (implicitDefEqProofs := false) (decide := true) (maxSteps := 4000000) [ini, g_sbegun, sbegunC_eq, g_stake, stakeC_eq, g_snewest, snewestC_eq, g_slots, slotsC_eq]
  intro hL
  have hL : L.length ≤ 9223372036854775807 := hL
  obtain ⟨b1, b2, b3⟩ := nw_best L L.length (Nat.le_refl _)
  rw [List.take_length] at b1 b2 b3
  refine br_dec (fun hlt => ⟨hlt, ?_⟩) fun hge => ?_
  · have w : IntKind.i64.wrap ((i : Int) + 1) = ((i + 1 : Nat) : Int) := w_nat rfl (by omega)
    have e1 := nwHas_take L hlt
    have e2 := nwAmong_take L (nw L).1 hlt
    have e3 := b2 i hlt
    rw [w]
    generalize (L[i]?).getD no = t at e1 e2 e3 ⊢
    refine br_intro (fun h => ⟨i + 1, hlt, by omega, rfl, ?_⟩) fun h => ?_
    · have h := not_t h
      rw [e1, e2, h]
      exact ⟨(Bool.or_false _).symm, by rw [Bool.false_and, Bool.or_false]⟩
    have h := not_f h
    refine br_intro (fun h2 => ⟨(e3 h).2, i + 1, hlt, by omega, rfl, ?_, ?_⟩) fun h2 => ⟨(e3 h).2, i + 1, hlt, by omega, rfl, ?_, ?_⟩
    · rw [e1, h, Bool.or_true]
    · rw [e2, h2, Bool.true_or]
    · rw [e1, h, Bool.or_true]
    · rw [e2, h2, h, Bool.true_and, Bool.false_or]
  · obtain rfl : i = L.length := by omega
    rw [List.take_length]
    refine ⟨nw_has L, br_intro (fun h h2 => ?_) fun h => ⟨?_, fun h2 => ?_⟩⟩
    · rw [b3 h2]; exact same_refl (t := SlT) (by decide) _
    · obtain ⟨k, hk, e⟩ := b1 (not_f h)
      refine List.any_eq_true.2 ⟨L[k], List.getElem_mem hk, ?_⟩
      rw [List.getElem?_eq_getElem hk] at e
      have e : takeSl L[k] = nw L := e
      rw [e, not_f h, Bool.true_and]
      exact same_refl (t := SlT) (by decide) _
    · rw [b3 h2]; exact same_refl (t := SlT) (by decide) _
end Go.Proofs.Ytjhnbndfepnpmaa
