/- Regions whose order is drawn: where operations that no edge orders keep out of each other's way, every order ends as the text's. -/
import Derived.Test.YtlckajldmooefaaTmExec
set_option linter.unusedVariables false
set_option linter.unusedSimpArgs false
namespace Go.Tm

theorem sub_none : ∀ (us : List Ups) (b : Nat) (st : St), sub (fun _ => false) b us st = st
  | [], b, st => rfl
  | x :: us, b, st => by simp only [sub, Bool.false_eq_true, if_false]; exact sub_none us _ _

theorem sub_shift {S : Nat → Bool} : ∀ (us : List Ups) (b : Nat) (st : St), sub S (b + 1) us st = sub (fun j => S (j + 1)) b us st
  | [], b, st => rfl
  | x :: us, b, st => by simp only [sub]; exact sub_shift us _ _

theorem sub_congr {S T : Nat → Bool} : ∀ {us : List Ups} {b : Nat} {st : St}, (∀ j, j < us.length → S (b + j) = T (b + j)) → sub S b us st = sub T b us st
  | [], b, st, h => rfl
  | x :: us, b, st, h => by
    simp only [sub]
    have h0 := h 0 (by simp)
    simp only [Nat.add_zero] at h0
    rw [h0]
    exact sub_congr (fun j hj => by
      have := h (j + 1) (by simp; omega)
      rwa [show b + (j + 1) = b + 1 + j by omega] at this)

theorem count_less {p q : Nat → Bool} {i : Nat} : ∀ {l : List Nat}, (∀ j, p j = true → q j = true) → i ∈ l → q i = true → p i = false → l.countP p < l.countP q
  | [], _, h, _, _ => by simp at h
  | x :: l, hpq, h, hq, hp => by
    have hle : l.countP p ≤ l.countP q := List.countP_mono_left (fun j _ => hpq j)
    simp only [List.countP_cons]
    by_cases e : i = x
    · subst e
      simp only [hq, hp, if_true, Bool.false_eq_true, if_false]
      omega
    · have := count_less hpq ((List.mem_cons.1 h).resolve_left e) hq hp
      cases hx : p x with
      | false => simp only [Bool.false_eq_true, if_false]; split <;> omega
      | true => simp only [hpq x hx, if_true]; omega

section
variable {P : Program} {tab : Tab} {Γ : Cons} {B : World} {R0 L : Nat → Prop} {st : St} {V : Nat → Value} {w : World} {N : Env} {a : Act} {o : Oper} {ups : Ups} {m : Nat} {ls : List Lk} {ops : Array Oper}

theorem run_at : ∀ {l : List Oper} {m : Nat} {st : St} {us : List (List Nat × Ups)} {st' : St}, RunT tab Γ ops l m st us st' →
    us.length = l.length ∧ st' = sub (fun _ => true) 0 (us.map (·.2)) st ∧
    ∀ i o, l[i]? = some o → ∃ u, us[i]? = some (rds ops (sub (fun j => decide (j < i)) 0 (us.map (·.2)) st) o, u) ∧ OpDone tab Γ ops o (m + i) (sub (fun j => decide (j < i)) 0 (us.map (·.2)) st) u
  | [], m, st, us, st', h => by
    cases h
    exact ⟨rfl, rfl, fun i o h => by simp at h⟩
  | o :: r, m, st, us, st', h => by
    cases h with
    | cons hd h =>
      obtain ⟨h1, h2, h3⟩ := run_at h
      refine ⟨by simpa using h1, ?_, fun i o' hi => ?_⟩
      · simp only [List.map_cons, sub, if_true]
        rw [h2, sub_shift]
      · cases i with
        | zero =>
          simp only [List.getElem?_cons_zero, Option.some.injEq] at hi
          subst hi
          have e : (fun j => decide (j < 0)) = fun _ => false := by funext j; simp
          rw [e, sub_none]
          exact ⟨_, rfl, by simpa using hd⟩
        | succ i =>
          obtain ⟨u', g1, g2⟩ := h3 i o' (by simpa using hi)
          simp only [List.map_cons, sub, Nat.zero_lt_succ, decide_true, if_true, sub_shift, Nat.add_lt_add_iff_right]
          exact ⟨u', by simpa using g1, by rw [show m + (i + 1) = m + 1 + i by omega]; exact g2⟩

theorem look_agree {st st2 : St} {x : Operand} (h : ∀ k ∈ rd1 st x, st k = st2 k) : look st2 x = look st x := by
  cases x with
  | tmp t =>
    have h0 : st t = st2 t := h t (by simp [rd1])
    simp only [look, ref]
    split
    case isFalse => rfl
    simp only [Option.map_some, ← h0, Option.some.injEq, Lk.mk.injEq, true_and]
    cases hs : st t with
    | own n ty xs => simp only [self, aliasOf]; rw [← h0]
    | obj n ty x => simp only [self, aliasOf]; rw [← h0]
    | asl n s rg =>
      simp only [self, aliasOf]
      exact (h s (by simp [rd1, hs, aliasOf])).symm
    | apt n s p =>
      simp only [self, aliasOf]
      exact (h s (by simp [rd1, hs, aliasOf])).symm
    | _ => rfl
  | const v =>
    simp only [look, ref]
    cases hv : cst v with
    | none => rfl
    | some s =>
      simp only [Option.map_some, (cst_low hv).2]
  | global g => rfl
  | func f => rfl

theorem looks_agree {st st2 : St} : ∀ {xs : List Operand}, (∀ k ∈ (xs.map (rd1 st)).flatten, st k = st2 k) → looks st2 xs = looks st xs
  | [], h => rfl
  | x :: xs, h => by
    simp only [List.map_cons, List.flatten_cons, List.mem_append] at h
    simp only [looks, look_agree (fun k hk => h k (.inl hk)), looks_agree (fun k hk => h k (.inr hk))]

theorem gd_agree {st st2 : St} (h : ∀ k ∈ rds ops st o, st k = st2 k) : gd ops st2 o = gd ops st o := by
  unfold gd
  cases hg : o.guard with
  | none => rfl
  | some p =>
    obtain ⟨j, want⟩ := p
    simp only
    cases ht : gtmp ops j with
    | none => rfl
    | some t =>
      have : st t = st2 t := h t (by simp [rds, hg, ht])
      simp only [this]

theorem done_agree {st st2 : St} (h : ∀ k ∈ rds ops st o, st k = st2 k) (hd : OpDone tab Γ ops o m st ups) : OpDone tab Γ ops o m st2 ups := by
  have hg := gd_agree h
  cases hd with
  | run hr hx hs =>
    refine .run (by rw [hg]; exact hr) ?_ hs
    rw [looks_agree (fun k hk => h k (by simp only [rds, List.mem_append]; exact .inr hk))]
    exact hx
  | skip hr => exact .skip (by rw [hg]; exact hr)

/-! ### Edges -/
def edges (o : Oper) : List Nat := (o.after.toList.filter (Region.binds .any)).map (·.on)

theorem clo_spec : ∀ {l : List Oper} {acc cl : List (List Nat)}, clo l acc = some cl → (∃ t, cl = acc ++ t) ∧ cl.length = acc.length + l.length ∧
    ∀ j o, l[j]? = some o → (∀ e ∈ edges o, e < acc.length + j) ∧ cl.getD (acc.length + j) [] = edges o ++ ((edges o).map fun e => cl.getD e []).flatten
  | [], acc, cl, h => by
    simp only [clo, Option.some.injEq] at h
    subst h
    exact ⟨⟨[], by simp⟩, by simp, fun j o h => by simp at h⟩
  | o :: r, acc, cl, h => by
    simp only [clo] at h
    split at h
    · rename_i hes
      obtain ⟨⟨t, ht⟩, h1, h2⟩ := clo_spec h
      have hlt : ∀ e ∈ edges o, e < acc.length := by
        intro e he
        have := List.all_eq_true.1 hes e he
        simpa using this
      refine ⟨⟨_, by rw [ht, List.append_assoc]⟩, by simp at h1; simp; omega, fun j o' hj => ?_⟩
      cases j with
      | zero =>
        simp only [List.getElem?_cons_zero, Option.some.injEq] at hj
        subst hj
        refine ⟨fun e he => by have := hlt e he; omega, ?_⟩
        have : cl.getD (acc.length + 0) [] = edges o ++ ((edges o).map fun e => acc.getD e []).flatten := by
          rw [ht]
          simp [List.getD_eq_getElem?_getD, edges]
        rw [this]
        congr 2
        apply List.map_congr_left
        intro e he
        rw [ht]
        simp only [List.getD_eq_getElem?_getD]
        rw [List.append_assoc, List.getElem?_append_left (hlt e he)]
      | succ j =>
        obtain ⟨g1, g2⟩ := h2 j o' (by simpa using hj)
        simp only [List.length_append, List.length_cons, List.length_nil] at g1 g2
        refine ⟨fun e he => by have := g1 e he; omega, ?_⟩
        rw [show acc.length + (j + 1) = acc.length + (0 + 1) + j by omega]
        exact g2
    · cases h

theorem clo_closed {cl : List (List Nat)} (h : clo ops.toList [] = some cl) {S : Nat → Bool} (hS : ∀ j o, S j = true → ops[j]? = some o → ∀ e ∈ edges o, S e = true) (hin : ∀ j, S j = true → j < ops.size) :
    ∀ j, S j = true → ∀ i ∈ cl.getD j [], S i = true := by
  intro j
  induction j using Nat.strongRecOn with
  | _ j ih =>
    intro hj i hi
    obtain ⟨_, h1, h2⟩ := clo_spec h
    have hlt := hin j hj
    have ho : ops.toList[j]? = some ops[j] := by simp [hlt]
    have ho' : ops[j]? = some ops[j] := by simp [hlt]
    obtain ⟨g1, g2⟩ := h2 j _ ho
    simp only [List.length_nil, Nat.zero_add] at g1 g2
    rw [g2] at hi
    rcases List.mem_append.1 hi with hi | hi
    · exact hS j _ hj ho' i hi
    · obtain ⟨l, hl, hil⟩ := List.mem_flatten.1 hi
      obtain ⟨e, he, rfl⟩ := List.mem_map.1 hl
      exact ih e (g1 e he) (hS j _ hj ho' e he) i hil

theorem apart_iff {x y : List Nat} (h : Go.Tm.apart x y = true) : ∀ k ∈ x, k ∉ y := by
  intro k hk
  have := List.all_eq_true.1 h k hk
  simpa using this

def isOn (listed : Array Bool) (i : Nat) : Bool := listed.getD i false

theorem on_set {listed : Array Bool} {i : Nat} (hi : i < listed.size) : isOn (listed.setIfInBounds i true) = fun j => decide (j = i) || isOn listed j := by
  funext j
  unfold isOn
  simp only [Array.getD_eq_getD_getElem?, Array.getElem?_setIfInBounds]
  by_cases e : i = j
  · subst e
    simp [hi]
  · have : ¬ (j = i) := fun h => e h.symm
    simp [e, this]

theorem any_ops (ok : TabOK P tab) (hΓ : ConsOK P Γ) {Q : Exit → Act → World → Prop} {us : List (List Nat × Ups)} {st st' : St} (hN : ∀ o ∈ ops.toList, ∀ k, o.dst = some k → k < N.n) (hr : RunT tab Γ ops ops.toList m st us st')
    (hI : Indep ops (us.map fun x => (x.1, keys x.2))) (hQ : ∀ V' a' w', Good B R0 L st' V' w' → Link N V' a' → (∃ b, Bnd b st') → Q .normal a' w') :
    ∀ (fuel : Nat) (listed : Array Bool) (V : Nat → Value) (a : Act) (w : World), listed.size = ops.size → (List.range ops.size).countP (fun i => !isOn listed i) ≤ fuel →
      (∀ j o, isOn listed j = true → ops[j]? = some o → ∀ e ∈ edges o, isOn listed e = true) →
      (∀ k n, stampOf (sub (isOn listed) 0 (us.map (·.2)) st k) = some n → n < m ∨ ∃ j, isOn listed j = true ∧ n = m + j) →
      Good B R0 L (sub (isOn listed) 0 (us.map (·.2)) st) V w → Link N V a → wpAny P .any ops Q fuel listed a w := by
  obtain ⟨r1, r2, r3⟩ := run_at hr
  unfold Indep indep at hI
  split at hI
  case h_2 => cases hI
  rename_i cl hcl
  obtain ⟨_, c1, c2⟩ := clo_spec hcl
  simp only [List.length_nil, Nat.zero_add] at c1 c2
  have hsz : us.length = ops.size := by rw [r1, Array.length_toList]
  -- when all have run
  have hall : ∀ (listed : Array Bool) (V : Nat → Value) (a : Act) (w : World), (∀ i, i < ops.size → isOn listed i = true) →
      (∀ k n, stampOf (sub (isOn listed) 0 (us.map (·.2)) st k) = some n → n < m ∨ ∃ j, isOn listed j = true ∧ n = m + j) → listed.size = ops.size →
      Good B R0 L (sub (isOn listed) 0 (us.map (·.2)) st) V w → Link N V a → Q .normal a w := by
    intro listed V a w hon hst hls hg hl
    have e : sub (isOn listed) 0 (us.map (·.2)) st = st' := by
      rw [r2]
      refine sub_congr (fun j hj => ?_)
      simp only [Nat.zero_add]
      exact hon j (by simpa [hsz] using hj)
    rw [e] at hg hst
    refine hQ V a w hg hl ⟨m + ops.size, fun k n hn => ?_⟩
    rcases hst k n hn with h | ⟨j, hj, rfl⟩
    · omega
    · have : j < ops.size := by
        rcases Nat.lt_or_ge j ops.size with h | h
        · exact h
        · rw [← hls] at h
          simp [isOn, Array.getD_eq_getD_getElem?, h] at hj
      omega
  have hready : ∀ (listed : Array Bool), listed.size = ops.size → Region.ready .any ops listed = [] → ∀ i, i < ops.size → isOn listed i = true := by
    intro listed hls h0 i
    induction i using Nat.strongRecOn with
    | _ i ih =>
      intro hi
      rcases hb : isOn listed i with _ | _
      · exfalso
        have : i ∈ Region.ready .any ops listed := by
          refine mem_ready.2 ⟨?_, ops[i], by simp [hi], fun e he hbd => ?_⟩
          · have hi' : i < listed.size := by omega
            simpa [isOn, Array.getD_eq_getD_getElem?, hi'] using hb
          · have := (c2 i ops[i] (by simp [hi])).1 e.on (by
              unfold edges
              exact List.mem_map.2 ⟨e, List.mem_filter.2 ⟨by simpa using he, hbd⟩, rfl⟩)
            exact ih e.on this (by omega)
        rw [h0] at this
        cases this
      · rfl
  intro fuel
  induction fuel with
  | zero =>
    intro listed V a w hls hcnt hcl' hst hg hl
    have hon : ∀ i, i < ops.size → isOn listed i = true := by
      intro i hi
      have h0 : (List.range ops.size).countP (fun i => !isOn listed i) = 0 := by omega
      have := List.countP_eq_zero.1 h0 i (List.mem_range.2 hi)
      simpa using this
    refine ⟨?_, hall listed V a w hon hst hls hg hl⟩
    apply List.eq_nil_iff_forall_not_mem.2
    intro i hi
    obtain ⟨h0, o, ho, _⟩ := mem_ready.1 hi
    have hlt : i < ops.size := (Array.getElem?_eq_some_iff.1 ho).1
    have h1 := hon i hlt
    have hlt' : i < listed.size := by omega
    simp [isOn, Array.getD_eq_getD_getElem?, hlt'] at h0 h1
    rw [h0] at h1
    cases h1
  | succ fuel ih =>
    intro listed V a w hls hcnt hcl' hst hg hl
    refine ⟨fun h0 => hall listed V a w (hready listed hls h0) hst hls hg hl, fun i hi => ?_⟩
    obtain ⟨h0, o, ho, hedge⟩ := mem_ready.1 hi
    have hlt : i < ops.size := (Array.getElem?_eq_some_iff.1 ho).1
    have hlt' : i < listed.size := by omega
    have hoff : isOn listed i = false := by simpa [isOn, Array.getD_eq_getD_getElem?, hlt'] using h0
    obtain ⟨u, hu, hd⟩ := r3 i o (by simpa using ho)
    have hu2 : (us.map (·.2))[i]? = some u := by rw [List.getElem?_map, hu]; rfl
    -- what keeps apart
    have hpair : ∀ i' j', i' < j' → j' < ops.size → pairOK cl (us.map fun x => (x.1, keys x.2)) i' j' = true := by
      intro i' j' h1 h2
      have := List.all_eq_true.1 hI j' (List.mem_range.2 h2)
      exact List.all_eq_true.1 this i' (List.mem_range.2 h1)
    have hin : ∀ j, isOn listed j = true → j < ops.size := by
      intro j hj
      rcases Nat.lt_or_ge j ops.size with h | h
      · exact h
      · rw [← hls] at h
        simp [isOn, Array.getD_eq_getD_getElem?, h] at hj
    have hclosed := clo_closed hcl hcl' hin
    have hS' : ∀ j o', (decide (j = i) || isOn listed j) = true → ops[j]? = some o' → ∀ e ∈ edges o', (decide (e = i) || isOn listed e) = true := by
      intro j o' hj hj' e he
      rcases Bool.or_eq_true _ _ ▸ hj with hj | hj
      · have : j = i := by simpa using hj
        subst this
        rw [ho] at hj'
        injection hj' with hj'
        subst hj'
        obtain ⟨e', he', rfl⟩ := List.mem_map.1 he
        obtain ⟨q1, q2⟩ := List.mem_filter.1 he'
        have := hedge e' (by simpa using q1) q2
        simp [isOn, this]
      · simp [hcl' j o' hj hj' e he]
    have hin' : ∀ j, (decide (j = i) || isOn listed j) = true → j < ops.size := by
      intro j hj
      rcases Bool.or_eq_true _ _ ▸ hj with hj | hj
      · have : j = i := by simpa using hj
        omega
      · exact hin j hj
    have hclosed' := clo_closed hcl hS' hin'
    have htr : ∀ j v, us[j]? = some v → (us.map fun x => (x.1, keys x.2)).getD j ([], []) = (v.1, keys v.2) := by
      intro j v hv
      simp [List.getD_eq_getElem?_getD, List.getElem?_map, hv]
    have hagree : ∀ k ∈ rds ops (sub (fun j => decide (j < i)) 0 (us.map (·.2)) st) o, sub (fun j => decide (j < i)) 0 (us.map (·.2)) st k = sub (isOn listed) 0 (us.map (·.2)) st k := by
      intro k hk
      refine sub_agree (fun j v hv hne => ?_) rfl
      simp only [Nat.zero_add] at hne
      rw [List.getElem?_map, Option.map_eq_some_iff] at hv
      obtain ⟨x, hx, rfl⟩ := hv
      have hjl : j < ops.size := by rw [← hsz]; exact (List.getElem?_eq_some_iff.1 hx).1
      rcases Nat.lt_trichotomy j i with hlt2 | heq | hgt
      · have hoffj : isOn listed j = false := by
          cases hb : isOn listed j with
          | false => rfl
          | true => rw [hb] at hne; simp [hlt2] at hne
        have := hpair j i hlt2 hlt
        unfold pairOK at this
        rw [htr j x hx, htr i _ hu] at this
        simp only [Bool.or_eq_true, Bool.and_eq_true] at this
        rcases this with h | ⟨⟨h, _⟩, _⟩
        · have := hclosed' i (by simp) j (by simpa using h)
          simp only [show ¬ (j = i) by omega, decide_false, Bool.false_or, hoffj] at this
          cases this
        · exact fun hkj => apart_iff h k hkj hk
      · subst heq
        rw [hoff] at hne
        simp at hne
      · have honj : isOn listed j = true := by
          cases hb : isOn listed j with
          | true => rfl
          | false => rw [hb] at hne; simp [show ¬ (j < i) by omega] at hne
        have := hpair i j hgt hjl
        unfold pairOK at this
        rw [htr j x hx, htr i _ hu] at this
        simp only [Bool.or_eq_true, Bool.and_eq_true] at this
        rcases this with h | ⟨_, h⟩
        · have := hclosed j honj i (by simpa using h)
          rw [hoff] at this
          cases this
        · exact apart_iff h k hk
    have hd' := done_agree hagree hd
    have hmore : sub (isOn (listed.setIfInBounds i true)) 0 (us.map (·.2)) st = app u (sub (isOn listed) 0 (us.map (·.2)) st) := by
      rw [on_set hlt']
      refine sub_more hu2 hoff (fun j v hv hij hon k hk => ?_)
      rw [List.getElem?_map, Option.map_eq_some_iff] at hv
      obtain ⟨x, hx, rfl⟩ := hv
      have hjl : j < ops.size := by rw [← hsz]; exact (List.getElem?_eq_some_iff.1 hx).1
      have := hpair i j hij hjl
      unfold pairOK at this
      rw [htr j x hx, htr i _ hu] at this
      simp only [Bool.or_eq_true, Bool.and_eq_true] at this
      rcases this with h | ⟨⟨_, h⟩, _⟩
      · have := hclosed j hon i (by simpa using h)
        rw [hoff] at this
        cases this
      · exact apart_iff h k hk
    refine done_wp ok hΓ ho (hN o (by simpa using Array.mem_of_getElem? ho)) hg hl (fun k n s ha e => ?_) hd' fun V' a' w' g l => ?_
    · rcases hst k n (alias_stamp ha) with h | ⟨j, hj, h⟩
      · omega
      · have : j = i := by omega
        subst this
        rw [hoff] at hj
        cases hj
    · refine ih (listed.setIfInBounds i true) V' a' w' (by simpa using hls) ?_ ?_ ?_ ?_ l
      · rw [on_set hlt']
        have hlt3 : (List.range ops.size).countP (fun j => !(decide (j = i) || isOn listed j)) < (List.range ops.size).countP (fun j => !isOn listed j) := by
          exact count_less (fun j h => by simp at h; simp [h.2]) (List.mem_range.2 hlt) (by simp [hoff]) (by simp)
        exact Nat.le_of_lt_succ (Nat.lt_of_lt_of_le hlt3 hcnt)
      · rw [on_set hlt']
        exact hS'
      · rw [hmore, on_set hlt']
        intro k n hn
        rcases done_bnd hd' hn with h | ⟨k', h⟩
        · exact .inr ⟨i, by simp, h⟩
        · rcases hst k' n h with h | ⟨j, hj, h⟩
          · exact .inl h
          · exact .inr ⟨j, by simp [hj], h⟩
      · rw [hmore]
        exact g

end
end Go.Tm
