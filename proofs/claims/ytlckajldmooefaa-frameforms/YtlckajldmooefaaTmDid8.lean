/- What an operation does: conversions, the least and the greatest. -/
import Derived.Test.YtlckajldmooefaaTmDid7
set_option linter.unusedVariables false
set_option linter.unusedSimpArgs false
namespace Go.Tm

section
variable {P : Program} {tab : Tab} {B : World} {R0 L : Nat → Prop} {st : St} {V : Nat → Value} {w : World} {N : Env} {a : Act} {o : Oper} {ups : Ups} {m : Nat}

/-- A row of the call's own changes its slot, its block is marked. -/
theorem Good.handed (hg : Good B R0 L st V w) (hf : Fresh m st) {d s n : Nat} {u : Ty} {xs : List u.den} {w' : World} {A : Option Addr} {v : Value} (hs : st s = .own n u xs) (hsd : s ≠ d) (hb : But w A w') (hA : ∀ ad, A = some ad → ownBlk (st s) (V s) = some ad.block)
    (hbl : ∀ b, ownBlk (.own m u xs) v = some b → ownBlk (st s) (V s) = some b) (hrep : (∀ b, b < w.heap.size → RO B R0 st V b → RO B R0 (Tm.put (Tm.put st s .dead) d (.own m u xs)) (Tm.put V d v) b) →
      (∀ b, RO B R0 st V b → ∀ ad, A = some ad → ad.block ≠ b) → OwnS w' (RO B R0 (Tm.put (Tm.put st s .dead) d (.own m u xs)) (Tm.put V d v)) u xs v) :
    Good B R0 L (Tm.put (Tm.put st s .dead) d (.own m u xs)) (Tm.put V d v) w' := by
  have es : (Tm.put (Tm.put st s Slot.dead) d (Slot.own m u xs)) s = .dead := by rw [put_ne _ _ hsd, put_same]
  refine hg.change (fun k => k = d ∨ k = s) hb.os hb.tape hb.output hb.size (fun b hlt hK => hb.block b hlt (fun ad hAd e => ?_)) (fun k hk => ?_) ?_ ?_ ?_ ?_
  · exact hK s (.inr rfl) (e ▸ hA ad hAd)
  · simp only [not_or] at hk
    rw [put_ne _ _ hk.1, put_ne _ _ hk.1, put_ne _ _ hk.2]
    exact ⟨rfl, rfl⟩
  · rintro hR k (rfl | rfl)
    · simp only [put_same]
      exact hrep hR (fun b hb ad hAd e => hb.2 s (e ▸ hA ad hAd))
    · rw [es]; trivial
  · rintro k b (rfl | rfl) hb
    · simp only [put_same] at hb ⊢
      exact .inr ⟨s, .inr rfl, hbl b hb, by rw [hs]; rfl, fun h => by rw [hs] at h; cases h⟩
    · rw [es] at hb; cases hb
  · rintro i j b (rfl | rfl) (rfl | rfl) h1 h2
    · rfl
    · rw [es] at h2; cases h2
    · rw [es] at h1; cases h1
    · rfl
  · rintro k n' s' hk (rfl | rfl) ha
    · simp only [put_same]
      obtain ⟨q1, q2⟩ := fresh_own (t := u) (xs := xs) hf k n' ha
      exact ⟨(fun t xs' h => absurd h (q1 t xs')), (fun t x' h => absurd h (q2 t x'))⟩
    · rw [es]
      exact ⟨(fun t xs' h => by cases h), (fun t x' h => by cases h)⟩

theorem did_convert (ok : TabOK P tab) (hg : Good B R0 L st V w) (hl : Link N V a) (hf : Fresh m st) {src dst : TypeId} {x : Operand} {l : Lk} (ho : o.op = .convert src dst x) (hx : look st x = some l)
    (hi : stepConvert tab src dst o.dst m l = some ups) : Did P B R0 L st V w a o ups := by
  have h := look_ok hg hl hx
  have hexec : ∀ (v : Value) (w' : World), (convert src dst (a.eval x)).run P w = .ok v w' → (execOp a.eval o).run P w = .ok (.value v) w' := by
    intro v w' hr
    simp only [execOp, ho]
    simp [hr]
  have hrep := h.rep
  unfold stepConvert at hi
  split at hi
  · rename_i k n hs
    rw [hs] at hrep
    have hv := vrep_int hrep
    split at hi
    · rename_i k1 k' h1 h2
      refine did_into hg (v := .int k' (k'.wrap n)) (s := .val (.int k') (k'.wrap n)) (hexec _ _ ?_) (mk_int _ _ _ _) rfl hi
      simp [hv, convert, run_underlying (tab_int ok h1), run_underlying (tab_int ok h2), Conv.intToInt]
    · cases hi
  · rename_i s hs
    rw [hs] at hrep
    have hv := vrep_str hrep
    split at hi
    · rename_i h1 h2
      refine did_into hg (v := .string s) (s := .val .str s) (hexec _ _ ?_) (mk_str _ _ _) rfl hi
      simp [hv, convert, run_underlying (tab_str ok h1), run_underlying (tab_str ok h2)]
    · rename_i h1 h2
      split at hi
      · rename_i hle
        split at hi
        · rename_i d hd
          injection hi with hi
          subst hi
          obtain ⟨e, he, hte, _⟩ := tab_slice ok h2
          have hrun := Lib.run_convert_string_bytes (P := P) w src dst e s (tab_str ok h1) he (tab_int ok hte)
          rw [← hv] at hrun
          have hlen : (bytesOf s).length = s.size := by rw [bytesOf, List.length_map, Array.length_toList]; rfl
          refine ⟨_, _, .inl (hexec _ _ hrun), ?_⟩
          simp only [putO, hd, app_cons, app_nil]
          have hbut : But w none (Lib.bytesWorld w e s) := by
            refine ⟨rfl, rfl, rfl, by rw [Lib.bytesWorld_size]; omega, fun b hb _ => Lib.bytesWorld_at_old w e s b hb⟩
          have hg1 := grownCap_ge w s.size 0 e
          have hg2 := grownCap_le_maxLen w s.size 0 e (by unfold maxLen; omega)
          have hcs : (Lib.bytesCells w e s).size = grownCap w s.size 0 e := by
            have : s.data.size = s.size := rfl
            simp [Lib.bytesCells, this]; omega
          refine hg.fresh d _ _ hbut (fun hR => ⟨some ⟨w.heap.size, 0, none⟩, grownCap w s.size 0 e, (bytesOf s).map (Value.int .u8), by rw [hlen], by rw [hlen]; exact hg1, hg2, bytes_rep _ _ _ _, .inr ⟨_, rfl, ?_⟩⟩) (fun b hb => ?_) (fresh_own hf)
          · refine ⟨rfl, _, _, _, Lib.bytesWorld_at_new w e s, by simp [Ty.sz, hcs], .inr (Nat.le_refl _), by simp [Ty.sz, hlen]; exact hg1, fun j v hj => ?_⟩
            have hjl : j < (bytesOf s).length := by
              rcases Nat.lt_or_ge j (bytesOf s).length with h | h
              · exact h
              · rw [List.getElem?_eq_none (by simpa using h)] at hj; cases hj
            rw [hlen] at hjl
            simp only [Nat.zero_add, Lib.bytesCells]
            rw [Array.getElem?_append_left (by simpa using hjl)]
            have e1 : (s.data.map fun b => Value.int .u8 (b.toNat : Int)) = ((bytesOf s).map (Value.int .u8)).toArray := by
              apply Array.ext'
              simp [bytesOf]
            rw [e1]
            simpa using hj
          · simp only [ownBlk, Option.some.injEq] at hb
            omega
        · cases hi
      · cases hi
    · cases hi
  · split at hi
    · rename_i h1 h2
      split at hi
      · rename_i xs hs
        obtain ⟨A, c, cs, hv, p1, p2, p3, p4⟩ := slc_ok hg h hs
        obtain ⟨e, he, hte, _⟩ := tab_slice ok h1
        refine did_into hg (v := .string (strOf xs)) (s := .val .str (strOf xs)) (hexec _ _ ?_) (mk_str _ _ _) rfl hi
        rw [hv, run_convert_bytes_string w src dst e A _ c he (tab_int ok hte) (tab_str ok h2)]
        cases A with
        | none =>
          have : xs = [] := by
            rcases p4 with p4 | ⟨ad, p4, _⟩
            · exact p4
            · cases p4
          subst this
          simp [Conv.bytesToString, strOf]
          rfl
        | some ad =>
          have hcs := rep_ints p3
          have hload : (loadCells ad (List.length xs)).run P w = .ok (List.map (Value.int .u8) xs).toArray w := by
            rcases p4 with p4 | ⟨ad', p4, p5⟩
            · rw [p4]; simp [loadCells, loadCellsFrom]
            · injection p4 with p4
              subst p4
              have := run_loadCells_list (P := P) w ad cs p5
              rw [hcs] at this
              simpa using this
          rw [run_bytesToString w ad _ c xs hload, foldl_push_bytes]
          simp [strOf, ByteArray.empty, ByteArray.emptyWithCapacity]
          rfl
      · cases hi
    · rename_i h1 h2
      obtain ⟨sl, cc⟩ := l
      simp only at hi hrep
      split at hi
      · rename_i n s n' xs d hd _ _
        split at hi
        · rename_i hc
          obtain ⟨hn, hsd, hne, hx0⟩ := hc
          subst hn hsd
          injection hi with hi
          subst hi
          have hk := h.own _ s rfl
          simp only at hk
          have hv := hrep _ _ hk.symm
          have hkr := hg.rep s
          rw [← hk] at hkr
          obtain ⟨A, c, cs, hV, q1, q2, q3, q4⟩ := hkr
          obtain ⟨e, he, hte, _⟩ := tab_slice ok h1
          rcases q4 with ⟨q4, q5⟩ | ⟨ad, rfl, hm⟩
          · exfalso
            apply hx0
            exact List.eq_nil_of_length_eq_zero (by omega)
          obtain ⟨r1, row, el, fz, r2, r3, r4, r5, r6⟩ := hm.out
          have hsh : w.shape? ad.block = some (el, row.size) := by simp [World.shape?, r2]
          have hrun : (convert src src (a.eval x)).run P w = .ok (.slice (some ad) (List.length xs) c) (w.freeze ⟨ad.block, row.size, none⟩ 1) := by
            rw [hv, hV]
            simp [convert, run_underlying he, run_underlying (tab_int ok hte), markStringish, hsh]
          have hblk : (w.freeze ⟨ad.block, row.size, none⟩ 1).heap[ad.block]? = some (.cells row el (if fz.1 == fz.2 then (row.size, row.size + 1) else (min fz.1 row.size, max fz.2 (row.size + 1)))) := by
            simp [World.freeze, Array.getElem?_modify, r2]
          have hbut : But w (some ad) (w.freeze ⟨ad.block, row.size, none⟩ 1) := by
            refine ⟨rfl, rfl, rfl, by simp [World.freeze], fun b hb hA => ?_⟩
            have := hA ad rfl
            simp [World.freeze, Array.getElem?_modify, this]
          refine ⟨_, _, .inl (hexec _ _ hrun), ?_⟩
          simp only [putO, hd, app_cons, app_nil]
          refine hg.handed hf hk.symm hne hbut (fun ad' e' => by injection e' with e'; subst e'; rw [← hk, hV]; rfl) (fun b hb => by rw [← hk, hV]; rw [← hb]; exact (blk_own _ _ _ _ _)) (fun hR hA => ?_)
          refine ⟨some ad, c, cs, rfl, q1, q2, q3.imp (fun x c _ hx => rep_mono hbut.size hR (fun b hb hRb => hbut.block b hb (hA b hRb)) _ hx), .inr ⟨ad, rfl, r1, row, el, _, hblk, r3, ?_, r5, r6⟩⟩
          rcases r4 with r4 | r4
          · simp [r4]
          · by_cases h00 : fz.1 = fz.2
            · simp [h00]
            · simp only [beq_iff_eq, h00, if_false]
              right
              omega
        · cases hi
      · cases hi
    · cases hi

theorem min_ok {w : World} {R : Nat → Prop} {isMin : Bool} {k : IntKind} : ∀ {ls : List Lk} {vs : List Value} {n r : Int}, ls.length = vs.length → (∀ (j : Nat) (l : Lk) (v : Value), ls[j]? = some l → vs[j]? = some v → ∀ (k' : IntKind) (b : Int), l.s = .val (.int k') b → v = .int k' b) →
    minInts isMin n ls k = some r → (vs.foldlM (if isMin then Builtin.min2 else Builtin.max2) (.int k n)).run P w = .ok (.int k r) w
  | [], [], n, r, _, _, h => by
    simp only [minInts, Option.some.injEq] at h
    subst h
    simp
  | l :: ls, v :: vs, n, r, hlen, hv, h => by
    simp only [minInts] at h
    split at h
    · rename_i k' b hs
      split at h
      · rename_i hk
        subst hk
        have e := hv 0 l v rfl rfl k b hs
        subst e
        have := min_ok (w := w) (R := R) (ls := ls) (vs := vs) (by simpa using hlen) (fun j l v h1 h2 => hv (j + 1) l v (by simpa using h1) (by simpa using h2)) h
        cases isMin with
        | true =>
          simp only [if_true] at this ⊢
          simp only [List.foldlM_cons, Sem.run_bind, Builtin.min2, Sem.run_pure, Result.andThen_ok]
          exact this
        | false =>
          simp only [Bool.false_eq_true, if_false] at this ⊢
          simp only [List.foldlM_cons, Sem.run_bind, Builtin.max2, Sem.run_pure, Result.andThen_ok]
          exact this
      · cases h
    · cases h
  | [], _ :: _, _, _, h, _, _ => by simp at h
  | _ :: _, [], _, _, h, _, _ => by simp at h

theorem looks_at (hg : Good B R0 L st V w) (hl : Link N V a) : ∀ {xs : List Operand} {ls : List Lk}, looks st xs = some ls → ls.length = (xs.map a.eval).length ∧ ∀ (j : Nat) (l : Lk) (v : Value), ls[j]? = some l → (xs.map a.eval)[j]? = some v → LkOK (RO B R0 st V) st V w l v
  | [], ls, h => by
    simp only [looks, Option.some.injEq] at h
    subst h
    exact ⟨rfl, fun j l v h => by simp at h⟩
  | x :: xs, ls, h => by
    simp only [looks] at h
    split at h
    · rename_i l ls' h1 h2
      injection h with h
      subst h
      obtain ⟨g1, g2⟩ := looks_at hg hl h2
      refine ⟨by simpa using g1, fun j l' v hj hv => ?_⟩
      cases j with
      | zero =>
        simp only [List.getElem?_cons_zero, Option.some.injEq, List.map_cons] at hj hv
        subst hj hv
        exact look_ok hg hl h1
      | succ j => exact g2 j l' v (by simpa using hj) (by simpa using hv)
    · cases h

theorem did_min (hg : Good B R0 L st V w) (hl : Link N V a) {isMin : Bool} {x : Operand} {xs : List Operand} {l : Lk} {ls : List Lk} {k : IntKind} {n r : Int} {args : Array Operand} {ts : Array TypeId}
    (ho : o.op = .call { callee := .builtin (if isMin then .min else .max), args := args, argTypes := ts }) (hargs : args.toList = x :: xs) (hx : looks st (x :: xs) = some (l :: ls)) (hs : l.s = .val (.int k) n) (hm : minInts isMin n ls k = some r)
    (hi : into o.dst (.val (.int k) r) = some ups) : Did P B R0 L st V w a o ups := by
  obtain ⟨g1, g2⟩ := looks_at hg hl hx
  have h0 := (g2 0 l (a.eval x) rfl rfl).rep
  rw [hs] at h0
  have hv := vrep_int h0
  have hfold := min_ok (P := P) (w := w) (R := fun _ => True) (isMin := isMin) (k := k) (ls := ls) (vs := xs.map a.eval) (by simpa using g1) (fun j l' v h1 h2 k' b hsb => by
    have := (g2 (j + 1) l' v (by simpa using h1) (by simpa using h2)).rep
    rw [hsb] at this
    exact vrep_int this) hm
  refine did_into hg (v := .int k r) (s := .val (.int k) r) ?_ (mk_int _ _ _ _) rfl hi
  simp only [execOp, ho]
  cases isMin with
  | true =>
    simp only [if_true] at hfold ⊢
    simp [resolve, invoke, builtin, Builtin.min_, hargs, hv, hfold]
  | false =>
    simp only [Bool.false_eq_true, if_false] at hfold ⊢
    simp [resolve, invoke, builtin, Builtin.max_, hargs, hv, hfold]

end
end Go.Tm
