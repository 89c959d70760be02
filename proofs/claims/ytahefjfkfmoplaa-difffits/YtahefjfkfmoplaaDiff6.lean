/- diff: same trees. -/
import Derived.Test.YtahefjfkfmoplaaDiff5
set_option maxRecDepth 10000
set_option maxHeartbeats 2000000
set_option linter.unusedSimpArgs false
set_option linter.unusedVariables false
set_option pp.deepTerms.threshold 20
namespace Go.Proofs.Ytahefjfkfmoplaa
open Go.Tm Go.IntWalk
/-- The contract of glacisref6.SameTree. -/
def rsameTC : Con := conN [(.v, .slice (.prod (.int .i64) (.prod (.int .i64) (.prod .str .unit)))), (.v, .slice (.prod (.int .i64) (.prod (.int .i64) (.prod .str .unit))))] fun (t, u, _) => if t.length ≤ 1000 then some ⟨.val ⟨.bool, decide (t = u)⟩, []⟩ else none
theorem rsameTC_eq {t : List (Ty.den (.prod (.int .i64) (.prod (.int .i64) (.prod .str .unit))))} {u : List (Ty.den (.prod (.int .i64) (.prod (.int .i64) (.prod .str .unit))))} : rsameTC [.val ⟨.slice (.prod (.int .i64) (.prod (.int .i64) (.prod .str .unit))), t⟩, .val ⟨.slice (.prod (.int .i64) (.prod (.int .i64) (.prod .str .unit))), u⟩] = if t.length ≤ 1000 then some ⟨.val ⟨.bool, decide (t = u)⟩, []⟩ else none := conN_mk (ks := [(.v, .slice (.prod (.int .i64) (.prod (.int .i64) (.prod .str .unit)))), (.v, .slice (.prod (.int .i64) (.prod (.int .i64) (.prod .str .unit))))]) (t, u, ())
def ΓrsameT : Cons := cons []
theorem rsameT_ex (t : List (Ty.den (.prod (.int .i64) (.prod (.int .i64) (.prod .str .unit))))) (u : List (Ty.den (.prod (.int .i64) (.prod (.int .i64) (.prod .str .unit))))) (hr : t.length ≤ 1000) : Ex tab ΓrsameT (Try.f25.body.getD .skip) (EndsF tab Try.f25.results.toList [.val ⟨.slice (.prod (.int .i64) (.prod (.int .i64) (.prod .str .unit))), t⟩, .val ⟨.slice (.prod (.int .i64) (.prod (.int .i64) (.prod .str .unit))), u⟩] ⟨.val ⟨.bool, decide (t = u)⟩, []⟩) (ini [.val ⟨.slice (.prod (.int .i64) (.prod (.int .i64) (.prod .str .unit))), t⟩, .val ⟨.slice (.prod (.int .i64) (.prod (.int .i64) (.prod .str .unit))), u⟩]) := by
  simp only [Try.f25, Option.getD_some]
  simp (implicitDefEqProofs := false) (decide := true) (maxSteps := 4000000) [ini]
  intro hla hlb
  have hla : t.length ≤ 9223372036854775807 := hla
  refine br_intro (fun h e => by rw [e] at h; simp at h) fun h => ?_
  have hl : t.length = u.length := Int.ofNat.inj (by simpa using h)
  refine ex_loopU (σ := Nat) [4, 5, 11, 12, 13, 14, 15, 16, 17, 18, 19, 20, 21, 22, 23, 24, 25] (fun s => [(5, .val (.int .i64) (s : Int))]) (fun s => s ≤ t.length ∧ t.take s = u.take s) (fun s => t.length - s) 0 ⟨by simp, by simp⟩ (hc rfl hn) ?_
  rintro j i ⟨hi, he⟩
  simp (implicitDefEqProofs := false) (decide := true) [ini]
  intro _
  refine br_dec (fun hlt => ⟨hlt, by omega, br_intro (fun h e => ?_) fun h => ⟨i + 1, ⟨by omega, ?_⟩, by omega, w_nat rfl (by omega)⟩⟩) fun hge => ?_
  · rw [e, same_refl (t := NodeT) (by decide)] at h; cases h
  · have h : t[i]?.getD ((0, 0, { data := #[] }, ()) : Node) = u[i]?.getD ((0, 0, { data := #[] }, ()) : Node) := same_eq (t := NodeT) (by decide) (not_f h)
    rw [List.getElem?_eq_getElem hlt, List.getElem?_eq_getElem (by omega)] at h
    rw [List.take_succ_eq_append_getElem hlt, List.take_succ_eq_append_getElem (by omega), he]
    simp only [Option.getD_some] at h
    rw [h]
  · obtain rfl : i = t.length := by omega
    rw [List.take_length, hl, List.take_length] at he
    exact he
theorem rsameT_ok : ConOK Try.prog 25 rsameTC := by
  refine con_ok tab_ok (Γ := ΓrsameT) consOK_nil (by kernel_rfl) Try.func25 (by kernel_rfl) ?_
  intro args out h
  obtain ⟨x, e, h1⟩ := conN_inv h
  clear h
  obtain ⟨t, u, x0⟩ := x
  subst e
  replace h1 : (if t.length ≤ 1000 then some ⟨.val ⟨.bool, decide (t = u)⟩, []⟩ else none) = some out := h1
  split at h1
  case isFalse => cases h1
  rename_i hr
  injection h1 with h1
  subst h1
  exact ⟨by rw [mkArgs_len]; decide, rsameT_ex t u hr⟩
theorem rises_eq : ∀ {l m : List Ent}, Rises l → Rises m → (∀ e, e ∈ l ↔ e ∈ m) → l = m
  | [], [], _, _, _ => rfl
  | [], b :: m, _, _, h => by have := (h b).2 (by simp); cases this
  | a :: l, [], _, _, h => by have := (h a).1 (by simp); cases this
  | a :: l, b :: m, h1, h2, h => by
    obtain ⟨a1, a2⟩ := List.pairwise_cons.1 h1
    obtain ⟨b1, b2⟩ := List.pairwise_cons.1 h2
    have hab : a = b := by
      rcases List.mem_cons.1 ((h a).1 (by simp)) with e | e
      · exact e
      · rcases List.mem_cons.1 ((h b).2 (by simp)) with e2 | e2
        · exact e2.symm
        · have := ltB_asymm (a1 b e2)
          rw [b1 a e] at this; cases this
    subst hab
    rw [rises_eq a2 b2 fun e => ⟨fun he => ?_, fun he => ?_⟩]
    · rcases List.mem_cons.1 ((h e).1 (by simp [he])) with e2 | e2
      · subst e2
        have := a1 e he
        rw [ltB_irrefl] at this; cases this
      · exact e2
    · rcases List.mem_cons.1 ((h e).2 (by simp [he])) with e2 | e2
      · subst e2
        have := b1 e he
        rw [ltB_irrefl] at this; cases this
      · exact e2
theorem dead_none {t u : List Node} (h : deadD t u = []) (hl : t.length = u.length) {k : Nat} (hk : k < t.length) : (t.getD k dfltN).1 = 0 ∨ (t.getD k dfltN).1 = (u.getD k dfltN).1 := by
  unfold deadD deadN at h
  rw [List.map_eq_nil_iff] at h
  have := List.filter_eq_nil_iff.1 h k (List.mem_range.2 hk)
  rw [deadP_eq hk hl] at this
  simp only [Bool.and_eq_true, Bool.not_eq_true', beq_eq_false_iff_ne, not_and, Classical.not_not] at this
  by_cases h0 : (t.getD k dfltN).1 = 0
  · exact .inl h0
  · exact .inr (this h0)
theorem chg_none {t u : List Node} (h : chgD t u = []) {k : Nat} (hk : k < t.length) (hs : sameD ((t, ()), (u, ()), ()) ((k + 1 : Nat) : Int) = true) : (t.getD k dfltN).2.1 = (u.getD k dfltN).2.1 ∧ ((t.getD k dfltN).1 = 1 → (t.getD k dfltN).2.2.1 = (u.getD k dfltN).2.2.1) := by
  unfold chgD chgN at h
  rw [List.map_eq_nil_iff] at h
  have := List.filter_eq_nil_iff.1 h k (List.mem_range.2 hk)
  rw [chgP, hs, Bool.true_and] at this
  generalize t.getD k dfltN = x at this ⊢
  generalize u.getD k dfltN = y at this ⊢
  have key : ∀ (a b c : Int) (p q : List UInt8), ¬ ((!(a == b) || (c == 1 && !(p == q))) = true) → a = b ∧ (c = 1 → p = q) := fun a b c p q h => by
    simp only [Bool.or_eq_true, Bool.not_eq_true', beq_eq_false_iff_ne, Bool.and_eq_true, beq_iff_eq, not_or, Classical.not_not, not_and] at h
    exact h
  obtain ⟨k1, k2⟩ := key _ _ _ _ _ this
  exact ⟨k1, fun h => ba_inj (k2 h)⟩
theorem gone_none {t u : List Node} (h : goneD t u = []) {k : Nat} (hk : k < t.length) {e : Ent} (he : e ∈ namesT t ((k + 1 : Nat) : Int)) : e ∈ namesT u ((k + 1 : Nat) : Int) := by
  have hm : ∀ {n : Nat}, k < n → toEn ((k + 1 : Nat) : Int) e ∈ entN t n := by
    intro n
    induction n with
    | zero => intro h; omega
    | succ n ih =>
      intro h
      rw [entN_succ, List.mem_append]
      by_cases hkn : k = n
      · subst hkn; exact .inr (List.mem_map.2 ⟨e, he, rfl⟩)
      · exact .inl (ih (by omega))
  have := List.filter_eq_nil_iff.1 h _ (hm hk)
  simp only [keptD, Bool.not_eq_true', Bool.not_eq_false, Bool.and_eq_true] at this
  obtain ⟨x, hx, hxs⟩ := List.any_eq_true.1 this.2
  have hx2 : x = toEn ((k + 1 : Nat) : Int) e := (same_eq (t := EnT) (by decide) hxs).symm
  obtain ⟨k', y, _, hy, e2⟩ := entN_mem hx
  rw [hx2] at e2
  injection e2 with e3 e4
  injection e4 with e4 e5
  injection e5 with e5 _
  have hkk : k = k' := by
    have : ((k + 1 : Nat) : Int) = ((k' + 1 : Nat) : Int) := e3
    omega
  subst hkk
  have : e = y := Prod.ext e4 (Prod.ext e5 rfl)
  rw [this]; exact hy
theorem names_good {t : List Node} (h : GoodT t) {i : Int} (h1 : 1 ≤ i) (h2 : i ≤ 9) (hk : kindT t i = 2) : dirOK (namesT t i) ∧ dirL (namesT t i) = bl (bodyT t i) := by
  have h9 := h.len
  have hn : namesT t i = (takeD (bodyT t i)).1 := by
    unfold namesT
    rw [if_neg]
    rintro (h | h | h)
    · omega
    · omega
    · exact h hk
  have := h.dir i h1 h2 hk
  rw [hn]
  exact takeD_iff.1 (Prod.ext rfl this)
/-- Where nothing differs, trees are the same. -/
theorem none_same {t u : List Node} (ht : GoodT t) (hu : GoodT u) (g1 : goneD t u = []) (g2 : goneD u t = []) (d1 : deadD t u = []) (d2 : deadD u t = []) (c : chgD t u = []) : t = u := by
  have lt := ht.len
  have lu := hu.len
  refine List.ext_getElem (by omega) fun k hk1 hk2 => ?_
  have et : t.getD k dfltN = t[k] := by rw [List.getD_eq_getElem?_getD, List.getElem?_eq_getElem hk1]; rfl
  have eu : u.getD k dfltN = u[k] := by rw [List.getD_eq_getElem?_getD, List.getElem?_eq_getElem hk2]; rfl
  have nt : nodeT t ((k + 1 : Nat) : Int) = t.getD k dfltN := by rw [nodeT, show (((k + 1 : Nat) : Int) - 1).toNat = k by omega]
  have nu : nodeT u ((k + 1 : Nat) : Int) = u.getD k dfltN := by rw [nodeT, show (((k + 1 : Nat) : Int) - 1).toNat = k by omega]
  have p1 : (1 : Int) ≤ ((k + 1 : Nat) : Int) := by omega
  have p2 : ((k + 1 : Nat) : Int) ≤ 9 := by omega
  have hkind : (t.getD k dfltN).1 = (u.getD k dfltN).1 := by
    rcases dead_none d1 (by omega) hk1 with h | h
    · rcases dead_none d2 (by omega) hk2 with h2 | h2
      · rw [h, h2]
      · exact h2.symm
    · exact h
  have kt : kindT t ((k + 1 : Nat) : Int) = (t.getD k dfltN).1 := by rw [kindT, nt]
  have ku : kindT u ((k + 1 : Nat) : Int) = (u.getD k dfltN).1 := by rw [kindT, nu]
  rw [← et, ← eu]
  by_cases h0 : (t.getD k dfltN).1 = 0
  · have a := ht.none _ p1 p2 (by rw [kt, h0])
    have b := hu.none _ p1 p2 (by rw [ku, ← hkind, h0])
    rw [← nt, ← nu, a, b]
  · have hs : sameD ((t, ()), (u, ()), ()) ((k + 1 : Nat) : Int) = true := by
      have q1 := kindD_9 ht p1 p2
      have q2 := kindD_9 hu p1 p2
      unfold sameD
      simp only
      rw [q1, q2, kt, ku, ← hkind, decide_eq_true h0]
      exact decide_eq_true rfl
    obtain ⟨m1, m2⟩ := chg_none c hk1 hs
    have hbody : (t.getD k dfltN).2.2.1 = (u.getD k dfltN).2.2.1 := by
      rcases ht.kind _ p1 p2 with h | h | h
      · exact absurd (kt.symm.trans h) h0
      · exact m2 (kt.symm.trans h)
      · obtain ⟨x1, x2⟩ := names_good ht p1 p2 h
        obtain ⟨y1, y2⟩ := names_good hu p1 p2 (by rw [ku, ← hkind, ← kt, h])
        have hn : namesT t ((k + 1 : Nat) : Int) = namesT u ((k + 1 : Nat) : Int) := rises_eq x1.2.1 y1.2.1 fun e => ⟨gone_none g1 hk1, gone_none g2 hk2⟩
        rw [hn, y2] at x2
        have := bl_inj x2
        rw [bodyT, bodyT, nt, nu] at this
        exact this.symm
    exact Prod.ext hkind (Prod.ext m1 (Prod.ext hbody rfl))
end Go.Proofs.Ytahefjfkfmoplaa
