/- What an operation does: new variables, loads and stores, fields and elements. -/
import Derived.Test.YtlckajldmooefaaTmDid
set_option linter.unusedVariables false
set_option linter.unusedSimpArgs false
namespace Go.Tm

theorem get_arr {n m : Nat} {t : Ty} (xs : List t.den) (q : Way) (p : List Way) : get (.arr n t) xs (q :: p) = get (.arr m t) xs (q :: p) := by
  cases q with
  | fld j => cases j <;> rfl
  | idx i => rfl
theorem offs_arr {n m : Nat} {t : Ty} (q : Way) (p : List Way) : offs (.arr n t) (q :: p) = offs (.arr m t) (q :: p) := by
  cases q with
  | fld j => cases j <;> rfl
  | idx i => rfl
theorem upd_arr {n m : Nat} {t : Ty} (xs : List t.den) (q : Way) (p : List Way) (u : Ty) (y : u.den) : (upd (.arr n t) xs (q :: p) u y : Option (List t.den)) = upd (.arr m t) xs (q :: p) u y := by
  cases q with
  | fld j => cases j <;> rfl
  | idx i => rfl

theorem upd_len {t : Ty} {xs : List t.den} {q : Way} {p : List Way} {u : Ty} {y : u.den} {xs' : List t.den} (h : upd (.arr 0 t) xs (q :: p) u y = some xs') : xs'.length = xs.length := by
  cases q with
  | fld j => simp [upd] at h
  | idx i =>
    simp only [upd] at h
    split at h
    · simp only [Option.map_eq_some_iff] at h
      obtain ⟨z, _, rfl⟩ := h
      simp
    · cases h

section
variable {P : Program} {tab : Tab} {B : World} {R0 L : Nat → Prop} {st : St} {V : Nat → Value} {w : World} {N : Env} {a : Act} {o : Oper} {ups : Ups} {m : Nat}

/-- What an address leads to, and where it lies. -/
theorem aim_ok (hg : Good B R0 L st V w) {l : Lk} {v : Value} (h : LkOK (RO B R0 st V) st V w l v) {d : Dv} (ha : aim l = some d) :
    ∃ ad cs, v = .pointer (some ad) ∧ rep w (RO B R0 st V) d.1 d.2 cs ∧ lies w ad cs := by
  obtain ⟨s, c⟩ := l
  have hr := h.rep
  have ho := h.own
  simp only at hr ho
  unfold aim at ha
  simp only at ha
  split at ha
  · injection ha with ha
    subst ha
    obtain ⟨ad, cs, rfl, _, _, h1, h2⟩ := hr
    exact ⟨ad, cs, rfl, h1, h2⟩
  · rename_i n k p n' t x
    split at ha
    · rename_i hn
      subst hn
      have hk := ho n k rfl
      obtain ⟨ad, hV, hv⟩ := hr.1 _ _ hk.symm
      have hkr := hg.rep k
      rw [← hk] at hkr
      obtain ⟨ad2, cs, hV2, h1, hm⟩ := hkr
      rw [hV] at hV2
      injection hV2 with hV2
      injection hV2 with hV2
      subst hV2
      obtain ⟨k1, k2⟩ := rep_get t x cs p d.1 d.2 h1 ha
      exact ⟨_, _, hv, k1, lies_mid hm.lies _ _⟩
    · cases ha
  · rename_i n k q p n' t xs
    split at ha
    · rename_i hn
      subst hn
      have hk := ho n k rfl
      obtain ⟨ad, L', c', hV, hv⟩ := hr.2 _ _ hk.symm
      have hkr := hg.rep k
      rw [← hk] at hkr
      obtain ⟨A, c2, cs, hV2, h1, h2, h3, h4⟩ := hkr
      rw [hV] at hV2
      injection hV2 with e1 e2 e3
      subst e1 e2 e3
      rcases h4 with ⟨h4, _⟩ | ⟨ad2, h4, hm⟩
      · cases h4
      · injection h4 with h4
        subst h4
        rw [get_arr (m := xs.length)] at ha
        obtain ⟨k1, k2⟩ := rep_get (.arr xs.length t) xs cs (q :: p) d.1 d.2 ⟨rfl, h3⟩ ha
        rw [offs_arr (m := xs.length)] at hv
        exact ⟨_, _, hv, k1, lies_mid hm.lies _ _⟩
    · cases ha
  · cases ha

theorem did_load (ok : TabOK P tab) (hg : Good B R0 L st V w) (hl : Link N V a) {t : TypeId} {x : Operand} {l : Lk} {d : Dv} (ho : o.op = .load t x) (hx : look st x = some l) (ha : aim l = some d)
    (ht : ty tab t = some d.1) (hi : into o.dst (.val d.1 d.2) = some ups) : Did P B R0 L st V w a o ups := by
  obtain ⟨ad, cs, hv, h1, h2⟩ := aim_ok hg (look_ok hg hl hx) ha
  refine did_into hg (v := mkv d.1 cs) (s := .val d.1 d.2) ?_ ⟨cs, h1, rfl⟩ rfl hi
  simp [execOp, ho, Instr.loadAt, hv, Instr.sureAddr, tm_loadVar ok ht h2 (rep_len _ h1)]

theorem did_alloc (ok : TabOK P tab) (hg : Good B R0 L st V w) (hf : Fresh m st) {e : TypeId} {u : Ty} {d : Nat} (ho : o.op = .alloc e) (hd : o.dst = some d) (he : ty tab e = some u) :
    Did P B R0 L st V w a o [(d, .obj m u u.dflt)] := by
  have hz := rep_zero w (fun _ => True) u
  have hc := mkv_cells hz
  refine ⟨.pointer (some ⟨w.heap.size, 0, none⟩), w.alloc (.cells (mkv u u.zeroV).cells e), .inl ?_, ?_⟩
  · simp [execOp, ho, Instr.alloc, tm_zero ok he, newVar, newRow]
  · simp only [putO, hd, app_cons, app_nil]
    refine hg.fresh d _ _ (but_alloc w _ none) (fun hR => ?_) (fun b hb => ?_) (fresh_obj hf)
    · refine ⟨_, u.zeroV, rfl, rep_zero _ _ u, ?_⟩
      rw [hc]
      have hlen := rep_len _ hz
      exact mem_new w _ e _ _ (by simp [hlen]) (by simp [hlen]) (fun j v hv => by simpa using hv)
    · simp only [ownBlk, Option.some.injEq] at hb
      omega

theorem did_box (hg : Good B R0 L st V w) (hl : Link N V a) (hf : Fresh m st) {e : TypeId} {x : Operand} {l : Lk} {want : Option Ty} {y : Dv} {u : Ups} {d : Nat} (ho : o.op = .box e x) (hd : o.dst = some d)
    (hx : look st x = some l) (hz : frz l want = some (y, u)) : Did P B R0 L st V w a o (u ++ [(d, .obj m y.1 y.2)]) := by
  have h := look_ok hg hl hx
  obtain ⟨hg', ⟨cs, h1, hv⟩, _⟩ := frz_ok hg h hz
  have hc := mkv_cells h1
  have hf' : Fresh m (app u st) := hf.app (fun p hp => (frz_alias hz p hp).1)
  refine ⟨.pointer (some ⟨w.heap.size, 0, none⟩), w.alloc (.cells (mkv y.1 cs).cells e), .inl ?_, ?_⟩
  · simp [execOp, ho, Instr.box, hv, newVar, newRow]
  · simp only [putO, hd, app_append, app_cons, app_nil]
    refine hg'.fresh d _ _ (but_alloc w _ none) (fun hR => ?_) (fun b hb => ?_) (fresh_obj hf')
    · have hlen := rep_len _ h1
      refine ⟨_, cs, rfl, rep_mono (by simp) hR (fun b hb _ => Go.RowKit.Below.heap_alloc w _ b hb) _ h1, ?_⟩
      rw [hc]
      exact mem_new w _ e _ _ (by simp [hlen]) (by simp [hlen]) (fun j v hv => by simpa using hv)
    · simp only [ownBlk, Option.some.injEq] at hb
      omega

/-- The content of a slot is written; its block's other cells stay. -/
theorem Good.write (hg : Good B R0 L st V w) {k : Nat} {s : Slot} {w' : World} {ad : Addr} (hb : But w (some ad) w') (hk : ownBlk (st k) (V k) = some ad.block) (hso : owning s = true) (ho : isObj s = isObj (st k))
    (hbl : ∀ v, ownBlk s v = ownBlk (st k) v) (hrep : (∀ b, b < w.heap.size → RO B R0 st V b → RO B R0 (Tm.put st k s) V b) → SlotRep w' (RO B R0 (Tm.put st k s) V) (Tm.put st k s) V s (V k))
    (hal : (∀ n t xs', s = .own n t xs' → ∃ xs, st k = .own n t xs ∧ xs.length = xs'.length) ∧ (∀ n t x', s = .obj n t x' → ∃ x, st k = .obj n t x)) : Good B R0 L (Tm.put st k s) V w' := by
  refine hg.change (fun j => j = k) hb.os hb.tape hb.output hb.size (fun b hlt h => hb.block b hlt (fun ad' e => ?_)) (fun j hj => ⟨put_ne _ _ hj, rfl⟩) ?_ ?_ ?_ ?_
  · injection e with e
    subst e
    intro e
    exact h k rfl (e ▸ hk)
  · rintro hR j rfl
    simp only [put_same]
    exact hrep hR
  · rintro j b rfl h
    simp only [put_same] at h ⊢
    exact .inr ⟨j, rfl, by rw [← hbl]; exact h, ho.symm, fun _ h => h⟩
  · rintro i j b rfl rfl _ _
    rfl
  · rintro j n s' hj rfl ha
    simp only [put_same]
    refine ⟨fun t xs' h => ⟨?_, hal.1 n t xs' h⟩, fun t x' h => ⟨?_, hal.2 n t x' h⟩⟩ <;> trivial

theorem did_store (ok : TabOK P tab) (hg : Good B R0 L st V w) (hl : Link N V a) {t : TypeId} {x y : Operand} {lx ly : Lk} (ho : o.op = .store t x y) (hd : o.dst = none)
    (hx : look st x = some lx) (hy : look st y = some ly) (hi : stepStore tab t lx ly = some ups) : Did P B R0 L st V w a o ups := by
  have h1 := look_ok hg hl hx
  have h2 := look_ok hg hl hy
  unfold stepStore at hi
  split at hi
  · rename_i d u hz
    split at hi
    · rename_i ht
      obtain ⟨hg', ⟨cv, hv1, hv2⟩, hu⟩ := frz_ok hg h2 hz
      have hcv := mkv_cells hv1
      have hlv := rep_len _ hv1
      have hone := rep_cells _ hv1
      obtain ⟨s, c⟩ := lx
      have hr := h1.rep
      have hown := h1.own
      simp only at hi hr hown
      split at hi
      · -- an object
        rename_i n k p n' t' z
        split at hi
        · rename_i hn
          subst hn
          split at hi
          · rename_i z' hup
            injection hi with hi
            subst hi
            have hk := hown n k rfl
            have hke : app u st k = .obj n t' z := by
              rcases hu with rfl | ⟨s', n2, t2, xs2, rfl, hs'⟩
              · exact hk.symm
              · have : k ≠ s' := fun e => by subst e; rw [← hk] at hs'; cases hs'
                exact (put_ne _ _ this).trans hk.symm
            obtain ⟨ad, hV, hva⟩ := hr.1 _ _ hk.symm
            have hkr := hg'.rep k
            rw [hke] at hkr
            obtain ⟨ad2, cs, hV2, q1, hm⟩ := hkr
            rw [hV] at hV2
            injection hV2 with hV2
            injection hV2 with hV2
            subst hV2
            obtain ⟨q2, q3⟩ := rep_upd t' z cs p d.1 d.2 z' cv q1 hup hv1
            have hlc := rep_len _ q1
            obtain ⟨w', r1, r2, r3⟩ := tm_storeVar ok ht hm (offs t' p) (v := a.eval y) (new := cv) (by omega) (by rw [hv2, hcv]) hlv hone
            refine ⟨undef, w', .inr ⟨?_, hd⟩, ?_⟩
            · simp [execOp, ho, Instr.storeAt, hva, Instr.sureAddr, r1]
            · have hups : app ((k, Slot.obj n t' z') :: u) st = Tm.put (app u st) k (.obj n t' z') := by
                rcases hu with rfl | ⟨s', n2, t2, xs2, rfl, hs'⟩
                · rfl
                · have : s' ≠ k := fun e => by subst e; rw [← hk] at hs'; cases hs'
                  simp only [app_cons, app_nil]
                  exact put_comm _ _ _ (Ne.symm this)
              rw [hups]
              simp only [putO, hd]
              refine hg'.write (ad := ad) r3 (by rw [hke, hV]; rfl) rfl (by rw [hke]; rfl) (fun v => by rw [hke]; exact blk_obj _ _ _ _ _) (fun hR => ?_) ⟨(fun _ _ _ e => by cases e), fun n2 t2 x2 e => ?_⟩
              · refine ⟨ad, _, hV, rep_mono r3.size hR (fun b hb hRb => r3.block b hb (fun ad' e e2 => ?_)) _ q2, ?_⟩
                · injection e with e
                  subst e
                  subst e2
                  exact hRb.2 k (by rw [hke, hV]; rfl)
                · have : ovr cs (offs t' p) cv = cs.take (offs t' p) ++ cv ++ cs.drop (offs t' p + d.1.sz) := by rw [ovr, hlv]
                  rwa [this] at r2
              · injection e with e1 e2
                subst e1 e2
                exact ⟨z, hke⟩
          · cases hi
        · cases hi
      · -- an element of a row
        rename_i n k q p n' t' xs
        split at hi
        · rename_i hn
          obtain ⟨hn, hne⟩ := hn
          subst hn
          split at hi
          · rename_i xs' hup
            injection hi with hi
            subst hi
            have hk := hown n k rfl
            have hke : app u st k = .own n t' xs := by
              rcases hu with rfl | ⟨s', n2, t2, xs2, rfl, hs'⟩
              · exact hk.symm
              · have : k ≠ s' := by simpa using Ne.symm (by simpa using hne)
                exact (put_ne _ _ this).trans hk.symm
            obtain ⟨ad, L', c', hV, hva⟩ := hr.2 _ _ hk.symm
            have hkr := hg'.rep k
            rw [hke] at hkr
            obtain ⟨A, c2, cs, hV2, g1, g2, g3, g4⟩ := hkr
            rw [hV] at hV2
            injection hV2 with e1 e2 e3
            subst e1 e2 e3
            rcases g4 with ⟨g4, _⟩ | ⟨ad2, g4, hm⟩
            · cases g4
            injection g4 with g4
            subst g4
            have hxl := upd_len hup
            rw [upd_arr (m := xs.length)] at hup
            rw [offs_arr (m := xs.length)] at hva
            obtain ⟨q2, q3⟩ := rep_upd (.arr xs.length t') xs cs (q :: p) d.1 d.2 xs' cv ⟨rfl, g3⟩ hup hv1
            have hlc : cs.length = xs.length * t'.sz := g3.length (fun x c hx => rep_len t' hx)
            simp only [Ty.sz] at q3
            obtain ⟨w', r1, r2, r3⟩ := tm_storeVar ok ht hm (offs (.arr xs.length t') (q :: p)) (v := a.eval y) (new := cv) (by omega) (by rw [hv2, hcv]) hlv hone
            refine ⟨undef, w', .inr ⟨?_, hd⟩, ?_⟩
            · simp [execOp, ho, Instr.storeAt, hva, Instr.sureAddr, r1]
            · have hups : app ((k, Slot.own n t' xs') :: u) st = Tm.put (app u st) k (.own n t' xs') := by
                rcases hu with rfl | ⟨s', n2, t2, xs2, rfl, hs'⟩
                · rfl
                · have : s' ≠ k := by simpa using hne
                  simp only [app_cons, app_nil]
                  exact put_comm _ _ _ (Ne.symm this)
              rw [hups]
              simp only [putO, hd]
              refine hg'.write (ad := ad) r3 (by rw [hke, hV]; rfl) rfl (by rw [hke]; rfl) (fun v => by rw [hke]; exact blk_own _ _ _ _ _) (fun hR => ?_) ⟨fun n2 t2 x2 e => ?_, (fun _ _ _ e => by cases e)⟩
              · refine ⟨some ad, c', _, by rw [hV, hxl], by rw [hxl]; exact g1, g2, (q2.2.imp (fun x c _ hx => rep_mono r3.size hR (fun b hb hRb => r3.block b hb (fun ad' e e2 => ?_)) _ hx)), .inr ⟨ad, rfl, ?_⟩⟩
                · injection e with e
                  subst e
                  subst e2
                  exact hRb.2 k (by rw [hke, hV]; rfl)
                · have : ovr cs (offs (.arr xs.length t') (q :: p)) cv = cs.take (offs (.arr xs.length t') (q :: p)) ++ cv ++ cs.drop (offs (.arr xs.length t') (q :: p) + d.1.sz) := by rw [ovr, hlv]
                  rwa [this] at r2
              · injection e with e1 e2 e3
                subst e1 e2
                cases e3
                exact ⟨xs, hke, hxl.symm⟩
          · cases hi
        · cases hi
      · cases hi
    · cases hi
  · cases hi

end
end Go.Tm
