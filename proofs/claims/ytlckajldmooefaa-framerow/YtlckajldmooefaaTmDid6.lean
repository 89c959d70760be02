/- What an operation does: cuts, single bytes, parts of results, conversions, lengths, what is appended. -/
import Derived.Test.YtlckajldmooefaaTmDid5
set_option linter.unusedVariables false
set_option linter.unusedSimpArgs false
namespace Go.Tm

def BndOK (l : Option Lk) (v : Option Value) : Prop :=
  match l, v with
  | none, none => True
  | some l, some v => ∀ n, intOf? l = some n → ∃ k, v = .int k n
  | _, _ => False

theorem cut_ok {P : Program} {w : World} {lo hi : Option Lk} {lov hiv : Option Value} {n cap l h : Nat} {isSl : Bool} (hlo : BndOK lo lov) (hhi : BndOK hi hiv) (hc : cutB lo hi (n : Int) = some (l, h)) (hn : n ≤ cap) :
    (Instr.sliceBounds isSl n cap lov hiv none).run P w = .ok (l, h, cap) w ∧ l ≤ h ∧ h ≤ n := by
  cases lo with
  | none =>
    cases lov with
    | some v => exact hlo.elim
    | none =>
      cases hi with
      | none =>
        cases hiv with
        | some v => exact hhi.elim
        | none =>
          simp only [cutB, Option.some.injEq, Prod.mk.injEq] at hc
          obtain ⟨rfl, rfl⟩ := hc
          simp [Instr.sliceBounds]
      | some y =>
        cases hiv with
        | none => exact hhi.elim
        | some v =>
          simp only [cutB] at hc
          split at hc
          · rename_i q hq
            split at hc
            · simp only [Option.some.injEq, Prod.mk.injEq] at hc
              obtain ⟨rfl, rfl⟩ := hc
              obtain ⟨k, rfl⟩ := hhi q hq
              refine ⟨?_, by omega, by omega⟩
              have h1 : 0 ≤ q ∧ q ≤ (cap : Int) := by omega
              simp [Instr.sliceBounds, Instr.sliceBound, asIntOf, h1]
            · cases hc
          · cases hc
  | some x =>
    cases lov with
    | none => exact hlo.elim
    | some lv =>
      cases hi with
      | none =>
        cases hiv with
        | some v => exact hhi.elim
        | none =>
          simp only [cutB] at hc
          split at hc
          · rename_i q hq
            split at hc
            · simp only [Option.some.injEq, Prod.mk.injEq] at hc
              obtain ⟨rfl, rfl⟩ := hc
              obtain ⟨k, rfl⟩ := hlo q hq
              refine ⟨?_, by omega, by omega⟩
              have h1 : 0 ≤ q ∧ q ≤ (n : Int) := by omega
              simp [Instr.sliceBounds, Instr.sliceBound, asIntOf, h1]
            · cases hc
          · cases hc
      | some y =>
        cases hiv with
        | none => exact hhi.elim
        | some v =>
          simp only [cutB] at hc
          split at hc
          · rename_i q r hq hr
            split at hc
            · split at hc
              · simp only [Option.some.injEq, Prod.mk.injEq] at hc
                obtain ⟨rfl, rfl⟩ := hc
                obtain ⟨k, rfl⟩ := hlo q hq
                obtain ⟨k', rfl⟩ := hhi r hr
                refine ⟨?_, by omega, by omega⟩
                have h1 : 0 ≤ r ∧ r ≤ (cap : Int) := by omega
                have h2 : 0 ≤ q ∧ q ≤ ((r.toNat : Nat) : Int) := by omega
                have h3 : ((r.toNat : Nat) : Int) = r := by omega
                have h4 : 0 ≤ q ∧ q ≤ r := by omega
                simp [Instr.sliceBounds, Instr.sliceBound, asIntOf, h1, h3, h4]
                try omega
              · cases hc
            · cases hc
          · cases hc

section
variable {P : Program} {tab : Tab} {B : World} {R0 L : Nat → Prop} {st : St} {V : Nat → Value} {w : World} {N : Env} {a : Act} {o : Oper} {ups : Ups} {m : Nat}

def lookO (st : St) : Option Operand → Option (Option Lk)
  | none => some none
  | some x => (look st x).map some

theorem bnd_ok (hg : Good B R0 L st V w) (hl : Link N V a) {x : Option Operand} {l : Option Lk} (h : lookO st x = some l) : BndOK l (x.map a.eval) := by
  cases x with
  | none => simp only [lookO, Option.some.injEq] at h; subst h; trivial
  | some x =>
    simp only [lookO, Option.map_eq_some_iff] at h
    obtain ⟨l, h, rfl⟩ := h
    exact fun n hn => intOf_ok hg hl h hn

theorem did_slice (ok : TabOK P tab) (hg : Good B R0 L st V w) (hl : Link N V a) {t : TypeId} {x : Operand} {lo hi : Option Operand} {lx : Lk} {llo lhi : Option Lk} {s : Slot} (ho : o.op = .slice t x lo hi none) (hx : look st x = some lx)
    (hlo : lookO st lo = some llo) (hhi : lookO st hi = some lhi) (hs : stepSlice tab t lx llo lhi = some s) (hi' : into o.dst s = some ups) : Did P B R0 L st V w a o ups := by
  have h := look_ok hg hl hx
  have hrep := h.rep
  have hown := h.own
  have b1 := bnd_ok hg hl hlo
  have b2 := bnd_ok hg hl hhi
  obtain ⟨sl, c⟩ := lx
  simp only at hrep hown
  unfold stepSlice at hs
  simp only at hs
  have hexec : ∀ (v : Value) (y : Value), a.eval x = y → (Instr.sliceAt t y (lo.map a.eval) (hi.map a.eval) none).run P w = .ok v w → (execOp a.eval o).run P w = .ok (.value v) w := by
    intro v y e h
    simp only [execOp, ho, e]
    simp [h]
  split at hs
  · -- a string
    rename_i z
    split at hs
    · rename_i ht
      have ht' := tab_str ok ht
      simp only [Option.map_eq_some_iff] at hs
      obtain ⟨⟨l', h'⟩, hc, rfl⟩ := hs
      obtain ⟨r1, r2, r3⟩ := cut_ok (P := P) (w := w) (isSl := false) b1 b2 hc (Nat.le_refl _)
      have hv := vrep_str hrep
      refine did_into hg (v := .string (z.extract l' h')) (s := .val .str (z.extract l' h')) (hexec _ _ hv ?_) (mk_str _ _ _) rfl hi'
      rw [run_sliceAt_string _ _ _ _ _ _ ht']
      simp [Instr.slice, run_underlying ht', r1]
    · cases hs
  · -- what is only read
    rename_i u xs
    split at hs
    · rename_i ht
      obtain ⟨e, he, hte, hz⟩ := tab_slice ok ht
      simp only [Option.map_eq_some_iff] at hs
      obtain ⟨⟨l', h'⟩, hc, rfl⟩ := hs
      obtain ⟨cs, ⟨A, cp, rfl, g1, g2, g3⟩, hv⟩ := hrep
      have hv' : a.eval x = .slice A (List.length xs) cp := by rw [hv]; rfl
      obtain ⟨r1, r2, r3⟩ := cut_ok (P := P) (w := w) (isSl := true) b1 b2 hc g1
      have hrun : (Instr.sliceAt t (.slice A (List.length xs) cp) (lo.map a.eval) (hi.map a.eval) none).run P w = .ok (.slice (if cp = l' then A else A.map (·.add (l' * u.sz))) (h' - l') (cp - l')) w := by
        have hel : P.elem t = e := by simp [Program.elem, he]
        rw [run_sliceAt_slice _ _ _ _ _ _ (by rw [hel]; exact he)]
        simp [Instr.slice, run_underlying he, r1, tm_sizeOf ok hte]
      have hlen : ((List.drop l' xs).take (h' - l')).length = h' - l' := by simp; omega
      refine did_into hg (v := .slice (if cp = l' then A else A.map (·.add (l' * u.sz))) (h' - l') (cp - l')) (s := .val (.slice u) ((List.drop l' xs).take (h' - l'))) (hexec _ _ hv' hrun)
        ⟨[.slice (if cp = l' then A else A.map (·.add (l' * u.sz))) ((List.drop l' xs).take (h' - l')).length (cp - l')], ⟨if cp = l' then A else A.map (·.add (l' * u.sz)), cp - l', rfl, ?_, ?_, ?_⟩, ?_⟩ rfl hi'
      · rw [hlen]; omega
      · omega
      · rcases g3 with g3 | ⟨ad, inner, rfl, g4, g5, g6, g7⟩
        · left; rw [g3]; simp
        · rcases Nat.eq_zero_or_pos (h' - l') with h0 | hp
          · left; exact List.eq_nil_of_length_eq_zero (by rw [hlen]; exact h0)
          · right
            have hne : cp ≠ l' := by omega
            refine ⟨ad.add (l' * u.sz), ((inner.drop (l' * u.sz)).take ((h' - l') * u.sz)), by rw [if_neg hne]; rfl, by rw [add_block]; exact g4, by rw [add_block]; exact g5,
              (g6.drop (fun x c hx => rep_len u hx) l').take (fun x c hx => rep_len u hx) _, lies_mid g7 _ _⟩
      · rw [hlen]; rfl
    · cases hs
  · -- the whole of a row
    rename_i n k
    split at hs
    · rename_i n' u xs
      split at hs
      · rename_i hn
        obtain ⟨hn, ht⟩ := hn
        subst hn
        obtain ⟨e, he, hte, hz⟩ := tab_slice ok ht
        have hel : P.elem t = e := by simp [Program.elem, he]
        have hk := hown n k rfl
        have hv := hrep _ _ hk.symm
        have hkr := hg.rep k
        rw [← hk] at hkr
        obtain ⟨A, c2, cs, hV, q1, q2, q3, q4⟩ := hkr
        split at hs
        · rename_i hno
          injection hs with hs
          subst hs
          have e1 : lo = none := by
            cases lo with
            | none => rfl
            | some y => simp only [lookO, Option.map_eq_some_iff] at hlo; obtain ⟨_, _, rfl⟩ := hlo; simp at hno
          have e2 : hi = none := by
            cases hi with
            | none => rfl
            | some y => simp only [lookO, Option.map_eq_some_iff] at hhi; obtain ⟨_, _, rfl⟩ := hhi; simp at hno
          subst e1 e2
          refine did_into hg (v := V k) (s := .asl n k none) (hexec _ _ hv ?_) (fun t' xs' _ => rfl) rfl hi'
          rw [hV, run_sliceAt_slice _ _ _ _ _ _ (by rw [hel]; exact he)]
          simp [Instr.slice, run_underlying he, Instr.sliceBounds, tm_sizeOf ok hte]
          intro _
          cases A <;> simp [add_zero]
        · simp only [Option.map_eq_some_iff] at hs
          obtain ⟨⟨l', h'⟩, hc, rfl⟩ := hs
          obtain ⟨r1, r2, r3⟩ := cut_ok (P := P) (w := w) (isSl := true) b1 b2 hc q1
          have hrun : (Instr.sliceAt t (.slice A xs.length c2) (lo.map a.eval) (hi.map a.eval) none).run P w = .ok (.slice (if c2 = l' then A else A.map (·.add (l' * u.sz))) (h' - l') (c2 - l')) w := by
            rw [run_sliceAt_slice _ _ _ _ _ _ (by rw [hel]; exact he)]
            simp [Instr.slice, run_underlying he, r1, tm_sizeOf ok hte]
          refine did_into hg (v := .slice (if c2 = l' then A else A.map (·.add (l' * u.sz))) (h' - l') (c2 - l')) (s := .asl n k (some (l', h' - l'))) (hexec _ _ (hv.trans hV) hrun) (fun t' xs' hs' => ?_) rfl hi'
          rw [← hk] at hs'
          injection hs' with z1 z2 z3
          subst z2
          cases z3
          refine ⟨by omega, A, _, c2, _, hV, rfl, ?_⟩
          rcases q4 with ⟨rfl, rfl⟩ | ⟨ad, rfl, hm⟩
          · left; exact ⟨rfl, by split <;> rfl⟩
          · right
            by_cases hcl : c2 = l'
            · exact ⟨ad, 0, rfl, by rw [if_pos hcl, add_zero], Nat.zero_le _, fun h => by omega⟩
            · exact ⟨ad, l' * u.sz, rfl, by rw [if_neg hcl]; rfl, Nat.mul_le_mul_right _ (by omega), fun _ => rfl⟩
      · cases hs
    · cases hs
  · -- a part of a row
    rename_i n k o1 len
    split at hs
    · rename_i n' u xs
      split at hs
      · rename_i hn
        obtain ⟨hn, ht⟩ := hn
        subst hn
        obtain ⟨e, he, hte, hz⟩ := tab_slice ok ht
        have hel : P.elem t = e := by simp [Program.elem, he]
        have hk := hown n k rfl
        obtain ⟨h0, A, L', c2, A', hV, hv, h8⟩ := hrep _ _ hk.symm
        have hkr := hg.rep k
        rw [← hk] at hkr
        obtain ⟨A2, c3, cs, hV2, q1, q2, q3, q4⟩ := hkr
        rw [hV] at hV2
        injection hV2 with e1 e2 e3
        subst e1 e2 e3
        simp only [Option.map_eq_some_iff] at hs
        obtain ⟨⟨l', h'⟩, hc, rfl⟩ := hs
        obtain ⟨r1, r2, r3⟩ := cut_ok (P := P) (w := w) (isSl := true) (cap := c2 - o1) b1 b2 hc (by omega)
        have hrun : (Instr.sliceAt t (.slice A' len (c2 - o1)) (lo.map a.eval) (hi.map a.eval) none).run P w = .ok (.slice (if c2 - o1 = l' then A' else A'.map (·.add (l' * u.sz))) (h' - l') (c2 - o1 - l')) w := by
          rw [run_sliceAt_slice _ _ _ _ _ _ (by rw [hel]; exact he)]
          simp [Instr.slice, run_underlying he, r1, tm_sizeOf ok hte]
        refine did_into hg (v := .slice (if c2 - o1 = l' then A' else A'.map (·.add (l' * u.sz))) (h' - l') (c2 - o1 - l')) (s := .asl n k (some (o1 + l', h' - l'))) (hexec _ _ hv hrun) (fun t' xs' hs' => ?_) rfl hi'
        rw [← hk] at hs'
        injection hs' with z1 z2 z3
        subst z2
        cases z3
        refine ⟨by omega, A, _, c2, _, hV, by rw [Nat.sub_sub], ?_⟩
        rcases h8 with ⟨rfl, rfl⟩ | ⟨ad, j, rfl, rfl, hjc, hj⟩
        · left; exact ⟨rfl, by split <;> rfl⟩
        · right
          by_cases hcl : c2 - o1 = l'
          · exact ⟨ad, j, rfl, by rw [if_pos hcl], hjc, fun h => by omega⟩
          · have hjj := hj (by omega)
            subst hjj
            refine ⟨ad, (o1 + l') * u.sz, rfl, ?_, Nat.mul_le_mul_right _ (by omega), fun _ => rfl⟩
            rw [if_neg hcl, Nat.add_mul, ← add_add]
            rfl
      · cases hs
    · cases hs
  · cases hs


/-- An object of the call's own is told as one that is only read. -/
theorem Good.freezeO (hg : Good B R0 L st V w) {s n : Nat} {t : Ty} {x : t.den} (hs : st s = .obj n t x) (hgh : s < ghost) : Good B R0 L (Tm.put st s (.rpt t x)) V w := by
  refine hg.change (fun k => k = s) rfl rfl rfl (Nat.le_refl _) (fun _ _ _ => rfl) (fun k hk => ⟨put_ne _ _ hk, rfl⟩) ?_ ?_ ?_ ?_
  · rintro hR k rfl
    have h := hg.rep k
    rw [hs] at h
    simp only [put_same]
    obtain ⟨ad, cs, hv, h1, hm⟩ := h
    refine ⟨ad, cs, hv, ⟨?_, fun k' hk' => ?_⟩, hm.block_lt, rep_mono (Nat.le_refl _) hR (fun _ _ _ => rfl) t h1, hm.lies⟩
    · rcases hg.mine k ad.block (by rw [hs, hv]; rfl) with ⟨_, _, h5⟩ | h5
      · omega
      · exact .inr h5
    · by_cases e : k' = k
      · subst e
        simp [put_same, ownBlk] at hk'
      · rw [put_ne _ _ e] at hk'
        exact e (hg.sep _ _ _ hk' (by rw [hs, hv]; rfl))
  · rintro k b rfl h
    simp only [put_same, ownBlk] at h
    cases h
  · rintro i j b rfl rfl _ _
    rfl
  · rintro k n' s' hk rfl ha
    simp only [put_same]
    exact ⟨(fun t xs' h => by cases h), (fun t x' h => by cases h)⟩

theorem arr_rpt (ok : TabOK P tab) {R : Nat → Prop} {t : TypeId} {k : Nat} {u : Ty} {xs : List u.den} {v : Value} (hrep : SlotRep w R st V (.rpt (.arr k u) xs) v) (hk : k ≤ 1000000) (ht : ty tab t = some (.arr k u))
    {lo hi : Option Lk} {lov hiv : Option Value} (b1 : BndOK lo lov) (b2 : BndOK hi hiv) {l h : Nat} (hc : cutB lo hi (k : Int) = some (l, h)) :
    ∃ y, (Instr.sliceAt t v lov hiv none).run P w = .ok y w ∧ vrep w R (.slice u) ((xs.drop l).take (h - l)) y := by
  obtain ⟨ad, cs, rfl, h1, h2, ⟨h3, h4⟩, h5⟩ := hrep
  obtain ⟨e, he, hte, hz⟩ := tab_arr ok ht
  obtain ⟨r1, r2, r3⟩ := cut_ok (P := P) (w := w) (isSl := false) b1 b2 hc (Nat.le_refl _)
  have hlen : ((List.drop l xs).take (h - l)).length = h - l := by simp; omega
  refine ⟨.slice (some (if k = l then ad else ad.add (l * u.sz))) (h - l) (k - l), ?_, ⟨[.slice (some (if k = l then ad else ad.add (l * u.sz))) ((List.drop l xs).take (h - l)).length (k - l)], ⟨some (if k = l then ad else ad.add (l * u.sz)), k - l, rfl, ?_, ?_, ?_⟩, ?_⟩⟩
  · simp [Instr.sliceAt, Instr.sureAddr, run_underlying he, r1, tm_sizeOf ok hte]
  · rw [hlen]; omega
  · unfold maxLen; omega
  · rcases Nat.eq_zero_or_pos (h - l) with h0 | hp
    · left; exact List.eq_nil_of_length_eq_zero (by rw [hlen]; exact h0)
    · right
      have hne : k ≠ l := by omega
      refine ⟨ad.add (l * u.sz), ((cs.drop (l * u.sz)).take ((h - l) * u.sz)), by rw [if_neg hne], by rw [add_block]; exact h1, by rw [add_block]; exact h2,
        (h4.drop (fun x c hx => rep_len u hx) l).take (fun x c hx => rep_len u hx) _, lies_mid h5 _ _⟩
  · rw [hlen]; rfl

theorem did_arr (ok : TabOK P tab) (hg : Good B R0 L st V w) (hl : Link N V a) {t : TypeId} {x : Operand} {lo hi : Option Operand} {lx : Lk} {llo lhi : Option Lk} (ho : o.op = .slice t x lo hi none) (hx : look st x = some lx)
    (hlo : lookO st lo = some llo) (hhi : lookO st hi = some lhi) (hs : stepArr tab t o.dst lx llo lhi = some ups) : Did P B R0 L st V w a o ups := by
  have h := look_ok hg hl hx
  have hrep := h.rep
  have hown := h.own
  have b1 := bnd_ok hg hl hlo
  have b2 := bnd_ok hg hl hhi
  obtain ⟨sl, c⟩ := lx
  simp only at hrep hown
  have hexec : ∀ (v : Value), (Instr.sliceAt t (a.eval x) (lo.map a.eval) (hi.map a.eval) none).run P w = .ok v w → (execOp a.eval o).run P w = .ok (.value v) w := by
    intro v h
    simp only [execOp, ho]
    simp [h]
  unfold stepArr at hs
  simp only at hs
  split at hs
  · rename_i k u xs
    split at hs
    · rename_i hcond
      simp only [Option.map_eq_some_iff] at hs
      obtain ⟨⟨l', h'⟩, hc, rfl⟩ := hs
      obtain ⟨y, h1, h2⟩ := arr_rpt ok hrep hcond.1 hcond.2 b1 b2 hc
      refine ⟨y, w, .inl (hexec y h1), ?_⟩
      cases o.dst with
      | none => exact hg
      | some d => exact hg.put d _ _ rfl rfl rfl rfl rfl h2 (fun n e => by cases e)
    · cases hs
  · rename_i n s
    split at hs
    · rename_i n' k u xs
      split at hs
      · rename_i hcond
        obtain ⟨rfl, hgh, hds, hk, ht⟩ := hcond
        simp only [Option.map_eq_some_iff] at hs
        obtain ⟨⟨l', h'⟩, hc, rfl⟩ := hs
        have hks := hown n s rfl
        have hg' := hg.freezeO hks.symm hgh
        obtain ⟨ad, hV, hv⟩ := hrep.1 _ _ hks.symm
        have h00 : offs (.arr k u) [] = 0 := rfl
        rw [h00, add_zero] at hv
        have hr' := hg'.rep s
        rw [put_same, hV, ← hv] at hr'
        obtain ⟨y, h1, h2⟩ := arr_rpt ok hr' hk ht b1 b2 hc
        refine ⟨y, w, .inl (hexec y h1), ?_⟩
        rw [app_cons]
        cases hd : o.dst with
        | none => exact hg'
        | some d => exact hg'.put d _ _ rfl rfl rfl rfl rfl h2 (fun n e => by cases e)
      · cases hs
    · cases hs
  · cases hs

theorem sl_did (ok : TabOK P tab) (hg : Good B R0 L st V w) (hl : Link N V a) {t : TypeId} {x : Operand} {lo hi : Option Operand} {lx : Lk} {llo lhi : Option Lk} (ho : o.op = .slice t x lo hi none) (hx : look st x = some lx)
    (hlo : lookO st lo = some llo) (hhi : lookO st hi = some lhi) (hs : stepSl tab t o.dst lx llo lhi = some ups) : Did P B R0 L st V w a o ups := by
  unfold stepSl at hs
  split at hs
  · exact did_arr ok hg hl ho hx hlo hhi hs
  · exact did_arr ok hg hl ho hx hlo hhi hs
  · split at hs
    · rename_i s hsl
      exact did_slice ok hg hl ho hx hlo hhi hsl hs
    · cases hs
end
end Go.Tm
