/- What an operation does, step by step: moves, values, new variables, loads and stores. -/
import Derived.Test.YtlckajldmooefaaTmVal
set_option linter.unusedVariables false
set_option linter.unusedSimpArgs false
namespace Go.Tm

def putO {α : Type} (V : Nat → α) (d : Option Tmp) (v : α) : Nat → α :=
  match d with
  | some d => put V d v
  | none => V

def Fresh (m : Nat) (st : St) : Prop := ∀ k n s, aliasOf (st k) = some (n, s) → n ≠ m

/-- The operation ends, and frame and world are as the new state says. -/
def Did (P : Program) (B : World) (R0 L : Nat → Prop) (st : St) (V : Nat → Value) (w : World) (a : Act) (o : Oper) (ups : Ups) : Prop :=
  ∃ v w', ((execOp a.eval o).run P w = .ok (.value v) w' ∨ ((execOp a.eval o).run P w = .ok .skip w' ∧ o.dst = none)) ∧ Good B R0 L (app ups st) (putO V o.dst v) w'

section
variable {P : Program} {tab : Tab} {B : World} {R0 L : Nat → Prop} {st : St} {V : Nat → Value} {w : World} {N : Env} {a : Act} {o : Oper} {ups : Ups} {m : Nat}

theorem did_into (hg : Good B R0 L st V w) {v : Value} {s : Slot} (hr : (execOp a.eval o).run P w = .ok (.value v) w) (hrep : SlotRep w (RO B R0 st V) st V s v) (hlow : owning s = false)
    (hi : into o.dst s = some ups) : Did P B R0 L st V w a o ups := by
  refine ⟨v, w, .inl hr, ?_⟩
  unfold into at hi
  split at hi
  · rename_i h
    injection hi with hi
    subst hi
    simpa [putO, h] using hg
  · rename_i d h
    split at hi
    · cases hi
    · rename_i hne
      injection hi with hi
      subst hi
      simp only [putO, h, app_cons, app_nil]
      refine hg.put d s v hlow rfl rfl rfl rfl hrep (fun n e => hne ?_)
      rw [e]
      rfl

theorem Good.fresh (hg : Good B R0 L st V w) (d : Nat) (s : Slot) (v : Value) {w' : World} (hb : But w none w')
    (hrep : (∀ b, b < w.heap.size → RO B R0 st V b → RO B R0 (Tm.put st d s) (Tm.put V d v) b) → SlotRep w' (RO B R0 (Tm.put st d s) (Tm.put V d v)) (Tm.put st d s) (Tm.put V d v) s v)
    (hown : ∀ b, ownBlk s v = some b → w.heap.size ≤ b) (hfresh : ∀ k n, aliasOf (st k) = some (n, d) → (∀ t xs, s ≠ .own n t xs) ∧ (∀ t x, s ≠ .obj n t x)) :
    Good B R0 L (Tm.put st d s) (Tm.put V d v) w' := by
  refine hg.change (fun k => k = d) hb.os hb.tape hb.output hb.size (fun b hlt _ => hb.block b hlt (fun ad h => by cases h)) (fun k hk => ⟨put_ne _ _ hk, put_ne _ _ hk⟩) ?_ ?_ ?_ ?_
  · rintro hR k rfl
    simpa using hrep hR
  · rintro k b rfl h
    simp only [put_same] at h
    exact .inl (hown b h)
  · rintro i j b rfl rfl _ _
    rfl
  · rintro k n s' hk rfl ha
    simp only [put_same]
    obtain ⟨h1, h2⟩ := hfresh k n ha
    exact ⟨(fun t xs' h => absurd h (h1 t xs')), (fun t x' h => absurd h (h2 t x'))⟩

theorem blk_own (m n : Nat) {t t' : Ty} (xs : List t.den) (ys : List t'.den) (v : Value) : ownBlk (.own m t xs) v = ownBlk (.own n t' ys) v := by
  cases v <;> try rfl
  rename_i A _ _
  cases A <;> rfl
theorem blk_obj (m n : Nat) {t t' : Ty} (x : t.den) (y : t'.den) (v : Value) : ownBlk (.obj m t x) v = ownBlk (.obj n t' y) v := by
  cases v <;> try rfl
  rename_i A
  cases A <;> rfl

theorem fresh_own (hf : Fresh m st) {d : Nat} {t : Ty} {xs : List t.den} : ∀ k n, aliasOf (st k) = some (n, d) → (∀ t' xs', Slot.own m t xs ≠ .own n t' xs') ∧ (∀ t' x', Slot.own m t xs ≠ .obj n t' x') := by
  intro k n h
  have := hf k n d h
  exact ⟨(fun t' xs' e => by injection e with e1; exact this e1.symm), (fun t' x' e => by cases e)⟩
theorem fresh_obj (hf : Fresh m st) {d : Nat} {t : Ty} {x : t.den} : ∀ k n, aliasOf (st k) = some (n, d) → (∀ t' xs', Slot.obj m t x ≠ .own n t' xs') ∧ (∀ t' x', Slot.obj m t x ≠ .obj n t' x') := by
  intro k n h
  have := hf k n d h
  exact ⟨(fun t' xs' e => by cases e), (fun t' x' e => by injection e with e1; exact this e1.symm)⟩

theorem Fresh.app {u : Ups} (hu : ∀ p ∈ u, aliasOf p.2 = none) : ∀ {st : St}, Fresh m st → Fresh m (app u st) := by
  induction u with
  | nil => exact fun h => h
  | cons p u ih =>
    intro st h
    refine ih (fun q hq => hu q (by simp [hq])) ?_
    intro k n s hk
    simp only at hk
    by_cases e : k = p.1
    · subst e
      rw [put_same, hu p (by simp)] at hk
      cases hk
    · rw [put_ne _ _ e] at hk
      exact h k n s hk

theorem frz_alias {l : Lk} {want : Option Ty} {d : Dv} {u : Ups} (hf : frz l want = some (d, u)) : ∀ p ∈ u, aliasOf p.2 = none ∧ owning p.2 = false := by
  unfold frz at hf
  split at hf
  · simp only [Option.some.injEq, Prod.mk.injEq] at hf
    obtain ⟨_, rfl⟩ := hf
    simp
  · split at hf
    · simp only [Option.some.injEq, Prod.mk.injEq] at hf
      obtain ⟨_, rfl⟩ := hf
      simp
    · cases hf
  · split at hf
    · simp only [Option.some.injEq, Prod.mk.injEq] at hf
      obtain ⟨_, rfl⟩ := hf
      simp [aliasOf, owning]
    · cases hf
  · split at hf
    · simp only [Option.some.injEq, Prod.mk.injEq] at hf
      obtain ⟨_, rfl⟩ := hf
      simp [aliasOf, owning]
    · cases hf
  · cases hf

/-! ### move, assign, pick -/
theorem did_move (hg : Good B R0 L st V w) (hl : Link N V a) {x : Operand} {l : Lk} (ho : o.op = .move x ∨ o.op = .nilCheck x ∧ (∃ ad, a.eval x = .pointer (some ad))) (hx : look st x = some l) (hi : into o.dst l.s = some ups) :
    Did P B R0 L st V w a o ups := by
  have h := look_ok hg hl hx
  refine did_into hg (v := a.eval x) ?_ h.rep h.low hi
  rcases ho with ho | ⟨ho, ad, had⟩
  · simp [execOp, ho]
  · simp [execOp, ho, had]

theorem did_iface (ok : TabOK P tab) (hg : Good B R0 L st V w) (hl : Link N V a) {T : TypeId} {x : Operand} {l : Lk} {t : Ty} {v : t.den} (ho : o.op = .makeInterface T x) (hx : look st x = some l) (hv : l.s = .val t v) (ht : ty tab T = some t)
    (hi : into o.dst (.ifc T t v) = some ups) : Did P B R0 L st V w a o ups := by
  have h := (look_ok hg hl hx).rep
  rw [hv] at h
  refine did_into hg (s := .ifc T t v) (v := .iface T (a.eval x)) ?_ ⟨_, rfl, h⟩ rfl hi
  obtain ⟨d, hd, hni⟩ := tab_plain ok ht
  have : (Instr.makeInterface T (a.eval x)).run P w = .ok (.iface T (a.eval x)) w := by
    unfold Instr.makeInterface
    rw [Sem.run_bind, run_underlying hd]
    simp only [Result.andThen_ok]
    cases d <;> first
      | exact absurd rfl (hni _)
      | simp
  simp [execOp, ho, this]

theorem did_pick (hg : Good B R0 L st V w) {q : Bool} {c x y : Operand} {s1 s2 : Slot} (ho : o.op = .pick c x y) (hc : a.eval c = .bool q)
    (h1 : SlotRep w (RO B R0 st V) st V s1 (a.eval x)) (l1 : owning s1 = false) (h2 : SlotRep w (RO B R0 st V) st V s2 (a.eval y)) (l2 : owning s2 = false) (hi : into o.dst (if q then s1 else s2) = some ups) :
    Did P B R0 L st V w a o ups := by
  cases q with
  | true => exact did_into hg (v := a.eval x) (by simp [execOp, ho, hc, asBool]) (by simpa using h1) (by simpa using l1) hi
  | false => exact did_into hg (v := a.eval y) (by simp [execOp, ho, hc, asBool]) (by simpa using h2) (by simpa using l2) hi

/-- A row or an object of the call's own changes its slot. -/
theorem Good.shift (hg : Good B R0 L st V w) {d k : Nat} {s s' : Slot} (hk : k ≠ d) (v : Value) (hv : v = V k) (hs : owning (st k) = true) (hgh : isObj (st k) = true → k < ghost) (hb : ∀ v, ownBlk s v = ownBlk (st k) v) (ho : isObj s = isObj (st k))
    (hrep : ∀ R, SlotRep w R st V (st k) (V k) → ∀ st' V', SlotRep w R st' V' s (V k)) (hs' : owning s' = false) (hrep' : SlotRep w (fun _ => True) (Tm.put (Tm.put st k s') d s) (Tm.put V d v) s' (V k))
    (hrep'' : ∀ R, SlotRep w (fun _ => True) (Tm.put (Tm.put st k s') d s) (Tm.put V d v) s' (V k) → SlotRep w R (Tm.put (Tm.put st k s') d s) (Tm.put V d v) s' (V k))
    (hfresh : ∀ k n, aliasOf (st k) = some (n, d) → (∀ t xs, s ≠ .own n t xs) ∧ (∀ t x, s ≠ .obj n t x)) :
    Good B R0 L (Tm.put (Tm.put st k s') d s) (Tm.put V d v) w := by
  subst hv
  have e1 : (Tm.put (Tm.put st k s') d s) k = s' := by rw [put_ne _ _ hk, put_same]
  have e2 : (Tm.put V d (V k)) k = V k := put_ne _ _ hk
  refine hg.change (fun j => j = d ∨ j = k) rfl rfl rfl (Nat.le_refl _) (fun _ _ _ => rfl) (fun j hj => ?_) ?_ ?_ ?_ ?_
  · simp only [not_or] at hj
    rw [put_ne _ _ hj.1, put_ne _ _ hj.2, put_ne _ _ hj.1]
    exact ⟨rfl, rfl⟩
  · rintro hR j (rfl | rfl)
    · simp only [put_same]
      exact hrep _ ((hg.rep k).move (Nat.le_refl _) hR (fun _ _ _ => rfl) (fun _ _ => rfl) (fun n s'' ha => by
        exfalso
        revert ha hs
        cases st k <;> simp [owning, aliasOf])) _ _
    · rw [e1, e2]
      exact hrep'' _ hrep'
  · rintro j b (rfl | rfl) h
    · simp only [put_same] at h ⊢
      exact .inr ⟨k, .inr rfl, by rw [← hb]; exact h, ho.symm, fun h1 h2 => by have := hgh h1; omega⟩
    · rw [e1, e2, ownBlk_none hs'] at h
      cases h
  · rintro i j b hi hj h1 h2
    rcases hi with rfl | rfl <;> rcases hj with rfl | rfl
    · rfl
    · rw [e1, e2, ownBlk_none hs'] at h2; cases h2
    · rw [e1, e2, ownBlk_none hs'] at h1; cases h1
    · rfl
  · rintro j n s'' hj hs'' ha
    rcases hs'' with rfl | rfl
    · simp only [put_same]
      obtain ⟨h1, h2⟩ := hfresh j n ha
      exact ⟨(fun t xs' h => absurd h (h1 t xs')), (fun t x' h => absurd h (h2 t x'))⟩
    · rw [e1]
      exact ⟨(fun t xs' h => by subst h; simp [owning] at hs'), (fun t x' h => by subst h; simp [owning] at hs')⟩

theorem did_assign (hg : Good B R0 L st V w) (hl : Link N V a) (hf : Fresh m st) {x : Operand} {l : Lk} (ho : o.op = .assign x) (hx : look st x = some l) (hi : stepAssign o.dst m l = some ups) :
    Did P B R0 L st V w a o ups := by
  have h := look_ok hg hl hx
  have hrun : (execOp a.eval o).run P w = .ok (.value (a.eval x)) w := by simp [execOp, ho]
  unfold stepAssign at hi
  split at hi
  · rename_i hd
    injection hi with hi
    subst hi
    exact ⟨_, w, .inl hrun, by simpa [putO, hd] using hg⟩
  · rename_i d hd
    obtain ⟨s, c⟩ := l
    have hrep := h.rep
    have hown := h.own
    simp only at hi hrep hown
    split at hi
    · -- the whole of a row
      rename_i n k n' t xs
      split at hi
      · rename_i hn
        subst hn
        have hk := hown n k rfl
        have hv := hrep _ _ hk.symm
        split at hi
        · rename_i hkd
          subst hkd
          injection hi with hi
          subst hi
          refine ⟨_, w, .inl hrun, ?_⟩
          simp only [putO, hd, app_nil, hv, put_eta]
          exact hg
        · rename_i hkd
          injection hi with hi
          subst hi
          refine ⟨_, w, .inl hrun, ?_⟩
          simp only [putO, hd, app_cons, app_nil]
          refine hg.shift hkd _ hv (by rw [← hk]; rfl) (fun h => by rw [← hk] at h; cases h) (fun v => by rw [← hk]; exact blk_own _ _ _ _ _) (by rw [← hk]; rfl) (fun R hr st' V' => by rw [← hk] at hr; exact hr) rfl ?_ (fun R hr => hr) (fresh_own hf)
          intro t' xs' h'
          rw [put_same, hv]
      · cases hi
    · -- a part of a row
      rename_i n k lo len n' t xs
      split at hi
      · rename_i hn
        subst hn
        have hk := hown n k rfl
        obtain ⟨h0, A, L', c, A', hV, hv, h8⟩ := hrep _ _ hk.symm
        split at hi
        · rename_i hkd
          subst hkd
          injection hi with hi
          subst hi
          refine ⟨_, w, .inl hrun, ?_⟩
          simp only [putO, hd, app_cons, app_nil]
          have hkr := hg.rep k
          rw [← hk] at hkr
          obtain ⟨A2, c2, cs, hV2, h1, h2, h3, h4⟩ := hkr
          rw [hV2] at hV
          injection hV with q1 q2 q3
          subst q1 q2 q3
          have hlen : ((xs.drop lo).take len).length = len := by simp; omega
          refine hg.change (fun j => j = k) rfl rfl rfl (Nat.le_refl _) (fun _ _ _ => rfl) (fun j hj => ⟨put_ne _ _ hj, put_ne _ _ hj⟩) ?_ ?_ ?_ ?_
          · rintro hR j rfl
            simp only [put_same]
            have hpart := ((h3.drop (fun x c hx => rep_len t hx) lo).take (fun x c hx => rep_len t hx) len).imp (fun x c _ hx => rep_mono (Nat.le_refl _) hR (fun _ _ _ => rfl) t hx)
            rcases h4 with ⟨rfl, rfl⟩ | ⟨ad, rfl, hm⟩
            · rcases h8 with ⟨_, h8⟩ | ⟨ad, j', h8, _⟩
              · exact ⟨A', 0 - lo, _, by rw [hlen]; exact hv, by rw [hlen]; omega, by omega, hpart, .inl ⟨h8, by omega⟩⟩
              · cases h8
            · rcases h8 with ⟨h8, _⟩ | ⟨ad2, j', h8, hA', hjc, hj⟩
              · cases h8
              · injection h8 with h8
                subst h8
                refine ⟨A', c2 - lo, _, by rw [hlen]; exact hv, by rw [hlen]; omega, by omega, hpart, .inr ⟨_, hA', ?_⟩⟩
                rcases Nat.lt_or_ge lo c2 with hlt | hge
                · rw [hj hlt]
                  have := (hm.part (lo * t.sz) (Nat.mul_le_mul_right _ (by omega))).cut (len * t.sz)
                  rwa [← Nat.sub_mul] at this
                · have h0 : c2 - lo = 0 := by omega
                  have hl0 : len = 0 := by omega
                  rw [h0, hl0, Nat.zero_mul]
                  have := (hm.part j' hjc).cut 0
                  obtain ⟨r1, row, e, fz, r2, r3, r4, r5, r6⟩ := this.out
                  exact ⟨r1, row, e, fz, r2, by omega, r4, by simp, fun q v hv => by simp at hv⟩
          · rintro j b rfl h'
            simp only [put_same] at h' ⊢
            refine .inr ⟨j, rfl, ?_, by rw [← hk]; rfl, fun h => by rw [← hk] at h; cases h⟩
            rw [hv] at h'
            rcases h8 with ⟨_, h8⟩ | ⟨ad2, j', h8, hA', _⟩
            · rw [h8] at h'; cases h'
            · rw [hA'] at h'
              rw [← hk, hV2, h8]
              simpa [ownBlk, add_block] using h'
          · rintro i j b rfl rfl _ _
            rfl
          · rintro j n'' s'' hj rfl ha
            simp only [put_same]
            obtain ⟨q1, q2⟩ := fresh_own (t := t) (xs := (xs.drop lo).take len) hf j n'' ha
            exact ⟨(fun t' xs' h' => absurd h' (q1 t' xs')), (fun t' x' h' => absurd h' (q2 t' x'))⟩
        · rename_i hkd
          injection hi with hi
          subst hi
          refine ⟨_, w, .inl hrun, ?_⟩
          simp only [putO, hd, app_cons, app_nil]
          exact hg.put d _ _ rfl rfl rfl rfl rfl hrep (fun n'' e => by simp only [aliasOf, Option.some.injEq, Prod.mk.injEq] at e; exact hkd e.2)
      · cases hi
    · -- an object
      rename_i n k n' t xs
      split at hi
      · rename_i hn
        subst hn
        have hk := hown n k rfl
        obtain ⟨ad, hV, hv⟩ := hrep.1 _ _ hk.symm
        have h00 : offs t [] = 0 := by cases t <;> rfl
        rw [h00, add_zero, ← hV] at hv
        split at hi
        · rename_i hkd
          subst hkd
          injection hi with hi
          subst hi
          refine ⟨_, w, .inl hrun, ?_⟩
          simp only [putO, hd, app_nil, hv, put_eta]
          exact hg
        · rename_i hkd
          split at hi
          · injection hi with hi
            subst hi
            refine ⟨_, w, .inl hrun, ?_⟩
            simp only [putO, hd, app_cons, app_nil]
            exact hg.put d _ _ rfl rfl rfl rfl rfl hrep (fun n'' e => by simp only [aliasOf, Option.some.injEq, Prod.mk.injEq] at e; exact hkd e.2)
          injection hi with hi
          subst hi
          refine ⟨_, w, .inl hrun, ?_⟩
          simp only [putO, hd, app_cons, app_nil]
          refine hg.shift hkd _ hv (by rw [← hk]; rfl) (fun _ => by omega) (fun v => by rw [← hk]; exact blk_obj _ _ _ _ _) (by rw [← hk]; rfl) (fun R hr st' V' => by rw [← hk] at hr; exact hr) rfl ?_ (fun R hr => hr) (fresh_obj hf)
          refine ⟨fun t' x' h' => ⟨ad, ?_, ?_⟩, fun t' xs' h' => ?_⟩
          · rw [put_same, hv, hV]
          · have h01 : offs t' [] = 0 := by cases t' <;> rfl
            rw [hV, h01, add_zero]
          · rw [put_same] at h'; cases h'
      · cases hi
    · exact did_into hg hrun hrep h.low (by rw [hd]; exact hi)

end
end Go.Tm
