/- Operands: what stands in a slot, and what the machine has there. -/
import Derived.Test.YtlckajldmooefaaTmOp
set_option linter.unusedVariables false
set_option linter.unusedSimpArgs false
namespace Go.Tm

structure Env where
  n : Nat
  g : Nat → Value
  le : n ≤ ghost

structure Link (N : Env) (V : Nat → Value) (a : Act) : Prop where
  size : a.tmps.size = N.n
  val : ∀ k, k < ghost → V k = a.tmps.getD k undef
  lent : ∀ k, ghost ≤ k → V k = N.g k
  defers : a.defers = []

theorem Link.put {N : Env} {V : Nat → Value} {a : Act} (h : Link N V a) {d : Nat} (hd : d < N.n) (v : Value) : Link N (put V d v) (a.put (some d) v) := by
  refine ⟨by simpa [Act.put] using h.size, fun k hk => ?_, fun k hk => ?_, h.defers⟩
  · simp only [Act.put, Tm.put]
    rw [Array.getD_eq_getD_getElem?, Array.getElem?_setIfInBounds]
    by_cases hkd : k = d
    · subst hkd
      simp [h.size, hd]
    · rw [if_neg hkd, if_neg (by omega), h.val k hk, Array.getD_eq_getD_getElem?]
  · have := N.le
    rw [put_ne _ _ (by omega)]
    exact h.lent k hk

structure LkOK (R : Nat → Prop) (st : St) (V : Nat → Value) (w : World) (l : Lk) (v : Value) : Prop where
  rep : SlotRep w R st V l.s v
  low : owning l.s = false
  own : ∀ n k, aliasOf l.s = some (n, k) → l.c = st k

theorem self_low (t : Nat) (s : Slot) : owning (self t s) = false := by cases s <;> rfl

theorem cst_low {v : Value} {s : Slot} (h : cst v = some s) : owning s = false ∧ aliasOf s = none := by
  unfold cst at h
  split at h <;> first | (cases h; done) | (injection h with h; subst h; exact ⟨rfl, rfl⟩)

theorem cst_rep {v : Value} {s : Slot} (h : cst v = some s) (w : World) (R : Nat → Prop) (st : St) (V : Nat → Value) : SlotRep w R st V s v := by
  unfold cst at h
  split at h <;> first
    | (cases h; done)
    | (injection h with h; subst h; exact ⟨_, rfl, rfl⟩)
    | (injection h with h; subst h; rfl)
    | (injection h with h; subst h; exact trivial)

theorem self_rep {B : World} {R0 L : Nat → Prop} {st : St} {V : Nat → Value} {w : World} (hg : Good B R0 L st V w) (t : Nat) : SlotRep w (RO B R0 st V) st V (self t (st t)) (V t) := by
  have h := hg.rep t
  cases hs : st t with
  | own n ty xs =>
    rw [hs] at h
    intro ty' xs' _
    rfl
  | obj n ty x =>
    rw [hs] at h
    obtain ⟨ad, cs, hv, h1, h2⟩ := h
    refine ⟨fun ty' x' h' => ⟨ad, hv, ?_⟩, fun ty' xs' h' => ?_⟩
    · have : offs ty' [] = 0 := by cases ty' <;> rfl
      rw [this, add_zero, hv]
    · rw [hs] at h'
      cases h'
  | dead => exact trivial
  | val ty x => rw [hs] at h; exact h
  | nil => rw [hs] at h; exact h
  | asl n s rg => rw [hs] at h; exact h
  | apt n s p => rw [hs] at h; exact h
  | rpt ty x => rw [hs] at h; exact h
  | tup l => rw [hs] at h; exact h
  | ifc T ty x => rw [hs] at h; exact h

theorem look_ok {B : World} {R0 L : Nat → Prop} {st : St} {V : Nat → Value} {w : World} {N : Env} {a : Act} (hg : Good B R0 L st V w) (hl : Link N V a) {x : Operand} {l : Lk}
    (h : look st x = some l) : LkOK (RO B R0 st V) st V w l (a.eval x) := by
  simp only [look, Option.map_eq_some_iff] at h
  obtain ⟨s, hs, rfl⟩ := h
  cases x with
  | tmp t =>
    simp only [ref] at hs
    split at hs
    · rename_i hlt
      injection hs with hs
      subst hs
      refine ⟨?_, self_low _ _, fun n k hk => by simp only [hk]⟩
      have := self_rep hg t
      rw [hl.val t hlt] at this
      exact this
    · cases hs
  | const v =>
    simp only [ref] at hs
    exact ⟨cst_rep hs _ _ _ _, (cst_low hs).1, fun n k hk => by rw [(cst_low hs).2] at hk; cases hk⟩
  | global g => simp [ref] at hs
  | func f => simp [ref] at hs

theorem slc_ok {B : World} {R0 L : Nat → Prop} {st : St} {V : Nat → Value} {w : World} (hg : Good B R0 L st V w) {l : Lk} {v : Value} (h : LkOK (RO B R0 st V) st V w l v) {t : Ty} {xs : List t.den}
    (hx : slc l = some ⟨t, xs⟩) : ∃ A c cs, v = .slice A xs.length c ∧ xs.length ≤ c ∧ c ≤ maxLen ∧ repList (rep w (RO B R0 st V) t) xs cs ∧ (xs = [] ∨ ∃ ad, A = some ad ∧ lies w ad cs) := by
  obtain ⟨s, c⟩ := l
  have hr := h.rep
  have ho := h.own
  simp only at hr ho
  unfold slc at hx
  simp only at hx
  split at hx
  · rename_i t' xs'
    injection hx with hx
    cases hx
    obtain ⟨cs, ⟨A, c, rfl, h1, h2, h3⟩, rfl⟩ := hr
    rcases h3 with h3 | ⟨ad, inner, rfl, h4, h5, h6, h7⟩
    · exact ⟨A, c, [], by simp [mkv, Ty.agg], h1, h2, by rw [h3]; rfl, .inl h3⟩
    · exact ⟨some ad, c, inner, by simp [mkv, Ty.agg], h1, h2, h6, .inr ⟨ad, rfl, h7⟩⟩
  · rename_i n k n' t' xs'
    split at hx
    · rename_i hn
      subst hn
      injection hx with hx
      cases hx
      have hk := ho n k rfl
      have hv := hr _ _ hk.symm
      subst hv
      have := hg.rep k
      rw [← hk] at this
      obtain ⟨A, c, cs, hv, h1, h2, h3, h4⟩ := this
      rw [hv]
      refine ⟨A, c, cs, rfl, h1, h2, h3, ?_⟩
      rcases h4 with ⟨rfl, rfl⟩ | ⟨ad, rfl, hm⟩
      · exact .inl (List.eq_nil_of_length_eq_zero (by omega))
      · exact .inr ⟨ad, rfl, hm.lies⟩
    · cases hx
  · rename_i n k lo len n' t' xs'
    split at hx
    · rename_i hn
      subst hn
      injection hx with hx
      cases hx
      have hk := ho n k rfl
      obtain ⟨h0, A, L', c, A', hV, rfl, h8⟩ := hr _ _ hk.symm
      have := hg.rep k
      rw [← hk] at this
      obtain ⟨A2, c2, cs, hv, h1, h2, h3, h4⟩ := this
      rw [hv] at hV
      injection hV with e1 e2 e3
      subst e1 e2 e3
      have hlen : ((xs'.drop lo).take len).length = len := by simp; omega
      refine ⟨A', c2 - lo, (cs.drop (lo * t.sz)).take (len * t.sz), by rw [hlen], by rw [hlen]; omega, by omega, ?_, ?_⟩
      · exact (h3.drop (fun x c hx => rep_len t hx) lo).take (fun x c hx => rep_len t hx) len
      · rcases Nat.eq_zero_or_pos len with hz | hp
        · exact .inl (List.eq_nil_of_length_eq_zero (by rw [hlen]; exact hz))
        · rcases h4 with ⟨h4, h5⟩ | ⟨ad2, h4, hm⟩
          · omega
          · rcases h8 with ⟨h8, _⟩ | ⟨ad, j, hA, hA', _, hj⟩
            · rw [h8] at h4; cases h4
            · rw [hA] at h4
              injection h4 with h4
              subst h4
              rw [hj (by omega)] at hA'
              exact .inr ⟨_, hA', lies_mid hm.lies _ _⟩
    · cases hx
  · cases hx

/-- A row of the call's own is told as one that is only read. -/
theorem Good.freeze {B : World} {R0 L : Nat → Prop} {st : St} {V : Nat → Value} {w : World} (hg : Good B R0 L st V w) {s n : Nat} {t : Ty} {xs : List t.den} (hs : st s = .own n t xs) :
    Good B R0 L (Tm.put st s (.val (.slice t) xs)) V w := by
  refine hg.change (fun k => k = s) rfl rfl rfl (Nat.le_refl _) (fun _ _ _ => rfl) (fun k hk => ⟨put_ne _ _ hk, rfl⟩) ?_ ?_ ?_ ?_
  · rintro hR k rfl
    have h := hg.rep k
    rw [hs] at h
    simp only [put_same]
    obtain ⟨A, c, cs, hv, h1, h2, h3, h4⟩ := h
    refine ⟨[V k], ⟨A, c, by rw [hv], h1, h2, ?_⟩, by simp [mkv, Ty.agg]⟩
    rcases h4 with ⟨rfl, rfl⟩ | ⟨ad, rfl, hm⟩
    · exact .inl (List.eq_nil_of_length_eq_zero (by omega))
    · refine .inr ⟨ad, cs, rfl, ⟨?_, fun k' hk' => ?_⟩, hm.block_lt, h3.imp (fun x c _ hx => rep_mono (Nat.le_refl _) hR (fun _ _ _ => rfl) t hx), hm.lies⟩
      · rcases hg.mine k ad.block (by rw [hs, hv]; rfl) with ⟨_, h5, _⟩ | h5
        · rw [hs] at h5; cases h5
        · exact .inr h5
      · by_cases e : k' = k
        · subst e
          simp [put_same, ownBlk] at hk'
        · rw [put_ne _ _ e] at hk'
          exact e (hg.sep _ _ _ hk' (by rw [hs, hv]; rfl))
  · rintro k b rfl h
    simp only [put_same, ownBlk] at h
    cases h
  · rintro i j b rfl rfl _ _
    rfl
  · rintro k n' s' hk rfl ha
    simp only [put_same]
    exact ⟨(fun t xs' h => by cases h), (fun t x' h => by cases h)⟩

def app (ups : Ups) (st : St) : St := ups.foldl (fun f u => put f u.1 u.2) st
@[simp] theorem app_nil (st : St) : app [] st = st := rfl
@[simp] theorem app_cons (u : Nat × Slot) (r : Ups) (st : St) : app (u :: r) st = app r (put st u.1 u.2) := rfl
theorem app_append (u v : Ups) (st : St) : app (u ++ v) st = app v (app u st) := by simp [app, List.foldl_append]

theorem Good.mono_rep {B : World} {R0 L : Nat → Prop} {st st' : St} {V : Nat → Value} {w : World} (hR : ∀ b, b < w.heap.size → RO B R0 st V b → RO B R0 st' V b) {t : Ty} {x : t.den} {v : Value}
    (h : vrep w (RO B R0 st V) t x v) : vrep w (RO B R0 st' V) t x v := vrep_mono (Nat.le_refl _) hR (fun _ _ _ => rfl) h

theorem RO_freeze {B : World} {R0 : Nat → Prop} {st : St} {V : Nat → Value} {s : Nat} {s' : Slot} (h : owning s' = false) (b : Nat) (hb : RO B R0 st V b) : RO B R0 (put st s s') V b := by
  refine ⟨hb.1, fun k hk => ?_⟩
  by_cases e : k = s
  · subst e
    rw [put_same, ownBlk_none h] at hk
    cases hk
  · rw [put_ne _ _ e] at hk
    exact hb.2 k hk

theorem frz_ok {B : World} {R0 L : Nat → Prop} {st : St} {V : Nat → Value} {w : World} (hg : Good B R0 L st V w) {l : Lk} {v : Value} (h : LkOK (RO B R0 st V) st V w l v) {want : Option Ty} {d : Dv} {u : Ups}
    (hf : frz l want = some (d, u)) : Good B R0 L (app u st) V w ∧ vrep w (RO B R0 (app u st) V) d.1 d.2 v ∧
      (u = [] ∨ ∃ s n t xs, u = [(s, .val (.slice t) xs)] ∧ st s = .own n t xs) := by
  obtain ⟨s, c⟩ := l
  have hr := h.rep
  have ho := h.own
  have hslc := @slc_ok B R0 L st V w hg ⟨s, c⟩ v h
  simp only at hr ho
  unfold frz at hf
  simp only at hf
  split at hf
  · simp only [Option.some.injEq, Prod.mk.injEq] at hf
    obtain ⟨rfl, rfl⟩ := hf
    exact ⟨hg, hr, .inl rfl⟩
  · split at hf
    · simp only [Option.some.injEq, Prod.mk.injEq] at hf
      obtain ⟨rfl, rfl⟩ := hf
      refine ⟨hg, ⟨[.slice none 0 0], ⟨none, 0, rfl, Nat.le_refl _, Nat.zero_le _, .inl rfl⟩, ?_⟩, .inl rfl⟩
      simp only [SlotRep] at hr
      simp [hr, mkv, Ty.agg]
    · cases hf
  · rename_i n k n' t' xs'
    split at hf
    · rename_i hn
      subst hn
      simp only [Option.some.injEq, Prod.mk.injEq] at hf
      obtain ⟨rfl, rfl⟩ := hf
      have hk := ho n k rfl
      have hg' := hg.freeze hk.symm
      refine ⟨hg', ?_, .inr ⟨k, n, t', xs', rfl, hk.symm⟩⟩
      have hv := hr _ _ hk.symm
      subst hv
      have := hg'.rep k
      rw [put_same] at this
      exact this
    · cases hf
  · rename_i n k lo len n' t' xs'
    split at hf
    · rename_i hn
      subst hn
      simp only [Option.some.injEq, Prod.mk.injEq] at hf
      obtain ⟨rfl, rfl⟩ := hf
      have hk := ho n k rfl
      have hg' := hg.freeze hk.symm
      refine ⟨hg', ?_, .inr ⟨k, n, t', xs', rfl, hk.symm⟩⟩
      obtain ⟨A, c, cs, rfl, h1, h2, h3, h4⟩ := @slc_ok B R0 L st V w hg _ v h t' ((xs'.drop lo).take len) (by simp [slc])
      refine ⟨_, ⟨A, c, rfl, h1, h2, ?_⟩, by simp [mkv, Ty.agg]⟩
      rcases h4 with h4 | ⟨ad, rfl, h5⟩
      · exact .inl h4
      · by_cases he : (xs'.drop lo).take len = []
        · exact .inl he
        · obtain ⟨h0, A, L', c', A', hV, hv, h8⟩ := hr _ _ hk.symm
          injection hv with hv1 hv2 hv3
          obtain ⟨ad', j, hA, hA'⟩ : ∃ ad' j, A = some ad' ∧ A' = some (ad'.add j) := by
            rcases h8 with ⟨_, h8⟩ | ⟨ad', j, h8, h9, _⟩
            · rw [h8] at hv1; cases hv1
            · exact ⟨ad', j, h8, h9⟩
          rw [hA'] at hv1
          injection hv1 with hv1
          subst hv1
          have hb : ownBlk (st k) (V k) = some ad'.block := by rw [← hk, hV, hA]; rfl
          refine .inr ⟨_, cs, rfl, ⟨?_, fun k' hk' => ?_⟩, ?_, h3.imp (fun x c _ hx => rep_mono (Nat.le_refl _) (fun b _ hb => RO_freeze (by rfl) b hb) (fun _ _ _ => rfl) _ hx), h5⟩
          · rw [add_block]
            rcases hg.mine k ad'.block hb with ⟨_, h6, _⟩ | h6
            · rw [← hk] at h6; cases h6
            · exact .inr h6
          · rw [add_block] at hk'
            by_cases e : k' = k
            · subst e
              simp [put_same, ownBlk] at hk'
            · have e2 : app [(k, Slot.val (.slice t') xs')] st k' = st k' := put_ne _ _ e
              rw [e2] at hk'
              exact e (hg.sep _ _ _ hk' hb)
          · rw [add_block]
            exact ownBlk_lt (hg.rep k) hb
    · cases hf
  · cases hf

end Go.Tm
