/- What an operation does: fields, elements, cuts. -/
import Derived.Test.YtlckajldmooefaaTmDid2
set_option linter.unusedVariables false
set_option linter.unusedSimpArgs false
namespace Go.Tm

theorem offs_append : ∀ (t : Ty) (x : t.den) (p q : List Way) (u : Ty) (y : u.den), get t x p = some ⟨u, y⟩ → offs t (p ++ q) = offs t p + offs u q := by
  intro t
  have base : ∀ (t : Ty) (x : t.den) (q : List Way) (u : Ty) (y : u.den), get t x [] = some ⟨u, y⟩ → offs t ([] ++ q) = offs t [] + offs u q := by
    intro t x q u y h
    have h0 : offs t [] = 0 := by cases t <;> rfl
    have : get t x [] = some ⟨t, x⟩ := by cases t <;> rfl
    rw [this] at h
    injection h with h
    cases h
    rw [h0]; simp
  induction t with
  | prod a b iha ihb =>
    intro x p q u y h
    cases p with
    | nil => exact base _ _ _ _ _ h
    | cons s p =>
      cases s with
      | idx i => simp [get] at h
      | fld j =>
        cases j with
        | zero => simp only [get] at h; simpa only [offs, List.cons_append] using iha _ _ _ _ _ h
        | succ j =>
          simp only [get] at h
          have := ihb _ _ q _ _ h
          simp only [List.cons_append] at this
          simp only [offs, List.cons_append, this]
          omega
  | arr n t ih =>
    intro x p q u y h
    cases p with
    | nil => exact base _ _ _ _ _ h
    | cons s p =>
      cases s with
      | fld j => simp [get] at h
      | idx i =>
        simp only [get] at h
        split at h
        · rename_i z hz
          have := ih _ _ q _ _ h
          simp only [offs, List.cons_append, this]
          omega
        · cases h
  | int k => intro x p q u y h; cases p with | nil => exact base _ _ _ _ _ h | cons s p => cases s <;> simp [get] at h
  | bool => intro x p q u y h; cases p with | nil => exact base _ _ _ _ _ h | cons s p => cases s <;> simp [get] at h
  | str => intro x p q u y h; cases p with | nil => exact base _ _ _ _ _ h | cons s p => cases s <;> simp [get] at h
  | unit => intro x p q u y h; cases p with | nil => exact base _ _ _ _ _ h | cons s p => cases s <;> simp [get] at h
  | slice t _ => intro x p q u y h; cases p with | nil => exact base _ _ _ _ _ h | cons s p => cases s <;> simp [get] at h

theorem get_append : ∀ (t : Ty) (x : t.den) (p q : List Way) (u : Ty) (y : u.den), get t x p = some ⟨u, y⟩ → get t x (p ++ q) = get u y q := by
  intro t
  have base : ∀ (t : Ty) (x : t.den) (q : List Way) (u : Ty) (y : u.den), get t x [] = some ⟨u, y⟩ → get t x ([] ++ q) = get u y q := by
    intro t x q u y h
    have : get t x [] = some ⟨t, x⟩ := by cases t <;> rfl
    rw [this] at h
    injection h with h
    cases h
    rfl
  induction t with
  | prod a b iha ihb =>
    intro x p q u y h
    cases p with
    | nil => exact base _ _ _ _ _ h
    | cons s p =>
      cases s with
      | idx i => simp [get] at h
      | fld j =>
        cases j with
        | zero => simp only [get] at h; simpa only [get, List.cons_append] using iha _ _ _ _ _ h
        | succ j => simp only [get] at h; simpa only [get, List.cons_append] using ihb _ _ q _ _ h
  | arr n t ih =>
    intro x p q u y h
    cases p with
    | nil => exact base _ _ _ _ _ h
    | cons s p =>
      cases s with
      | fld j => simp [get] at h
      | idx i =>
        simp only [get] at h
        split at h
        · rename_i z hz
          simp only [List.cons_append, get, hz]
          exact ih _ _ q _ _ h
        · cases h
  | int k => intro x p q u y h; cases p with | nil => exact base _ _ _ _ _ h | cons s p => cases s <;> simp [get] at h
  | bool => intro x p q u y h; cases p with | nil => exact base _ _ _ _ _ h | cons s p => cases s <;> simp [get] at h
  | str => intro x p q u y h; cases p with | nil => exact base _ _ _ _ _ h | cons s p => cases s <;> simp [get] at h
  | unit => intro x p q u y h; cases p with | nil => exact base _ _ _ _ _ h | cons s p => cases s <;> simp [get] at h
  | slice t _ => intro x p q u y h; cases p with | nil => exact base _ _ _ _ _ h | cons s p => cases s <;> simp [get] at h

theorem fields_at {tab : Tab} : ∀ (u : Ty) (fs : List Field) (v : u.den) (j off : Nat) (y : Dv), fieldsOK tab fs u off = true → get u v [.fld j] = some y →
    ∃ f, fs[j]? = some f ∧ f.offset = off + offs u [.fld j] ∧ ty tab f.type = some y.1 ∧ 0 < y.1.sz := by
  intro u
  induction u with
  | prod a b iha ihb =>
    intro fs v j off y hf hg
    cases fs with
    | nil => simp [fieldsOK] at hf
    | cons f fs =>
      simp only [fieldsOK, Bool.and_eq_true, beq_iff_eq, bne_iff_ne, decide_eq_true_eq] at hf
      obtain ⟨⟨⟨⟨ho, hn⟩, ht⟩, hz⟩, hr⟩ := hf
      cases j with
      | zero =>
        simp only [get] at hg
        injection hg with hg
        subst hg
        have h0 : offs a [] = 0 := by cases a <;> rfl
        exact ⟨f, rfl, by simp only [offs, h0]; omega, ht, hz⟩
      | succ j =>
        simp only [get] at hg
        obtain ⟨f', h1, h2, h3, h4⟩ := ihb fs v.2 j _ y hr hg
        exact ⟨f', by simpa using h1, by simp only [offs]; omega, h3, h4⟩
  | int k => intro fs v j off y hf hg; simp [get] at hg
  | bool => intro fs v j off y hf hg; simp [get] at hg
  | str => intro fs v j off y hf hg; simp [get] at hg
  | unit => intro fs v j off y hf hg; simp [get] at hg
  | slice t _ => intro fs v j off y hf hg; simp [get] at hg
  | arr n t _ => intro fs v j off y hf hg; simp [get] at hg

theorem get_struct {u : Ty} {v : u.den} {j : Nat} {y : Dv} (h : get u v [.fld j] = some y) : ∃ a b, u = .prod a b := by
  cases u <;> first | exact ⟨_, _, rfl⟩ | (simp [get] at h; done)

section
variable {P : Program} {tab : Tab} {B : World} {R0 L : Nat → Prop} {st : St} {V : Nat → Value} {w : World} {N : Env} {a : Act} {o : Oper} {ups : Ups} {m : Nat}

/-- The address of a part: what it leads to. -/
theorem sub_addr (hg : Good B R0 L st V w) {l : Lk} {v : Value} (h : LkOK (RO B R0 st V) st V w l v) {u : Ty} {x : u.den} {q : Way} {y : Dv} (ha : aim l = some ⟨u, x⟩) (hy : get u x [q] = some y) {s : Slot}
    (hs : (match l.s with | .rpt _ _ => some (.rpt y.1 y.2) | .apt n k p => some (.apt n k (p ++ [q])) | _ => none : Option Slot) = some s) :
    ∃ ad, v = .pointer (some ad) ∧ SlotRep w (RO B R0 st V) st V s (.pointer (some (ad.add (offs u [q])))) ∧ owning s = false := by
  obtain ⟨sl, c⟩ := l
  have hr := h.rep
  have ho := h.own
  simp only at hr ho hs
  unfold aim at ha
  simp only at ha
  split at ha
  · injection ha with ha
    cases ha
    simp only [Option.some.injEq] at hs
    subst hs
    obtain ⟨ad, cs, rfl, g1, g2, g3, g4⟩ := hr
    obtain ⟨k1, k2⟩ := rep_get u x cs [q] y.1 y.2 g3 hy
    exact ⟨ad, rfl, ⟨_, _, rfl, by rw [add_block]; exact g1, by rw [add_block]; exact g2, k1, lies_mid g4 _ _⟩, rfl⟩
  · rename_i n k p n' t z
    split at ha
    · rename_i hn
      subst hn
      have hk := ho n k rfl
      simp only [Option.some.injEq] at hs
      subst hs
      obtain ⟨ad, hV, hv⟩ := hr.1 _ _ hk.symm
      refine ⟨_, hv, ⟨fun t' x' h' => ⟨ad, hV, ?_⟩, fun t' xs' h' => ?_⟩, rfl⟩
      · rw [← hk] at h'
        injection h' with e1 e2 e3
        subst e2
        cases e3
        rw [offs_append _ _ p [q] u x ha, add_add]
      · rw [← hk] at h'; cases h'
    · cases ha
  · rename_i n k q' p n' t xs
    split at ha
    · rename_i hn
      subst hn
      have hk := ho n k rfl
      simp only [Option.some.injEq] at hs
      subst hs
      obtain ⟨ad, L', c', hV, hv⟩ := hr.2 _ _ hk.symm
      refine ⟨_, hv, ⟨fun t' x' h' => ?_, fun t' xs' h' => ⟨ad, L', c', hV, ?_⟩⟩, rfl⟩
      · rw [← hk] at h'; cases h'
      · rw [← hk] at h'
        injection h' with e1 e2 e3
        subst e2
        cases e3
        rw [offs_append _ _ (q' :: p) [q] u x ha, add_add]
    · cases ha
  · cases ha

theorem did_fieldAddr (ok : TabOK P tab) (hg : Good B R0 L st V w) (hl : Link N V a) {t : TypeId} {x : Operand} {l : Lk} {f : Nat} {s : Slot} (ho : o.op = .fieldAddr t x f) (hx : look st x = some l)
    (hs : stepFieldAddr tab t l f = some s) (hi : into o.dst s = some ups) : Did P B R0 L st V w a o ups := by
  have h := look_ok hg hl hx
  unfold stepFieldAddr at hs
  split at hs
  · rename_i u v ha
    split at hs
    · rename_i ht
      split at hs
      · rename_i y hy
        obtain ⟨ad, hv, hrep, hlow⟩ := sub_addr hg h ha hy hs
        obtain ⟨fs, h1, h2⟩ := tab_struct ok ht (.inr (get_struct hy))
        obtain ⟨fl, g1, g2, g3, g4⟩ := fields_at u _ v f 0 y h2 hy
        refine did_into hg ?_ hrep hlow hi
        have g1' : fs[f]? = some fl := by simpa using g1
        have g4' : y.1.sz ≠ 0 := by omega
        simp [execOp, ho, Instr.fieldAt, run_underlying h1, g1', hv, Instr.sureAddr, fieldPlace, tm_sizeOf ok g3, g4', g2]
      · cases hs
    · cases hs
  · cases hs

theorem did_field (ok : TabOK P tab) (hg : Good B R0 L st V w) (hl : Link N V a) {t : TypeId} {x : Operand} {c : Slot} {u : Ty} {v : u.den} {f : Nat} {y : Dv} (ho : o.op = .field t x f) (hx : look st x = some ⟨.val u v, c⟩)
    (ht : ty tab t = some u) (hy : get u v [.fld f] = some y) (hi : into o.dst (.val y.1 y.2) = some ups) : Did P B R0 L st V w a o ups := by
  obtain ⟨cs, hr, hv⟩ := (look_ok hg hl hx).rep
  obtain ⟨a', b', hu⟩ := get_struct hy
  obtain ⟨fs, h1, h2⟩ := tab_struct ok ht (.inr ⟨a', b', hu⟩)
  obtain ⟨fl, g1, g2, g3, g4⟩ := fields_at u _ v f 0 y h2 hy
  obtain ⟨k1, k2⟩ := rep_get u v cs [.fld f] y.1 y.2 hr hy
  have g1' : fs[f]? = some fl := by simpa using g1
  have hag : u.agg = true := by rw [hu]; rfl
  have hp := tm_part ok g3 (all := cs) (off := fl.offset) (cs := (cs.drop (offs u [.fld f])).take y.1.sz) (by rw [g2]; simp) k1
  refine did_into hg (v := mkv y.1 ((cs.drop (offs u [.fld f])).take y.1.sz)) (s := .val y.1 y.2) ?_ ⟨_, k1, rfl⟩ rfl hi
  have hv' : a.eval x = .agg cs.toArray := by rw [hv, mkv, if_pos hag]
  simp [execOp, ho, Instr.field, run_underlying h1, g1', hv', asAgg, hp]

theorem intOf_ok (hg : Good B R0 L st V w) (hl : Link N V a) {x : Operand} {l : Lk} {n : Int} (hx : look st x = some l) (h : intOf? l = some n) : ∃ k, a.eval x = .int k n := by
  have hr := (look_ok hg hl hx).rep
  unfold intOf? at h
  split at h
  · rename_i k n' hs
    injection h with h
    subst h
    rw [hs] at hr
    exact ⟨k, vrep_int hr⟩
  · cases h

theorem getD_some {t : Ty} {xs : List t.den} {i : Nat} (h : i < xs.length) (d : t.den) : xs[i]? = some (xs.getD i d) := by
  simp [List.getD_eq_getElem?_getD, List.getElem?_eq_getElem h]

theorem did_indexAddr (ok : TabOK P tab) (hg : Good B R0 L st V w) (hl : Link N V a) {t : TypeId} {x i : Operand} {lx li : Lk} {s : Slot} (ho : o.op = .indexAddr t x i) (hx : look st x = some lx) (hi' : look st i = some li)
    (hs : stepIndexAddr tab t lx li = some s) (hi : into o.dst s = some ups) : Did P B R0 L st V w a o ups := by
  have h := look_ok hg hl hx
  have hrep := h.rep
  have hown := h.own
  obtain ⟨sl, c⟩ := lx
  simp only at hrep hown
  unfold stepIndexAddr at hs
  split at hs
  · cases hs
  · rename_i n hn
    obtain ⟨k, hk⟩ := intOf_ok hg hl hi' hn
    simp only at hs
    split at hs
    · rename_i u htu
      obtain ⟨e, he, hte, hz⟩ := tab_slice ok htu
      split at hs
      · -- read only
        rename_i u' xs
        split at hs
        · rename_i hu
          subst hu
          split at hs
          · rename_i hb
            obtain ⟨hb1, hb2⟩ := hb
            injection hs with hs
            subst hs
            obtain ⟨cs, ⟨A, cp, rfl, g1, g2, g3⟩, hv⟩ := hrep
            rcases g3 with g3 | ⟨ad, inner, rfl, g4, g5, g6, g7⟩
            · subst g3; simp at hb2; omega
            · have hlt : n.toNat < List.length xs := by omega
              have hget := g6.get (fun x c hx => rep_len u' hx) n.toNat _ (getD_some hlt u'.dflt)
              refine did_into hg (v := .pointer (some (ad.add (n.toNat * u'.sz)))) (s := .rpt u' (xs.getD n.toNat u'.dflt)) ?_ ⟨_, _, rfl, by rw [add_block]; exact g4, by rw [add_block]; exact g5, hget, lies_mid g7 _ _⟩ rfl hi
              have hv' : a.eval x = .slice (some ad) (List.length xs) cp := by rw [hv]; rfl
              simp [execOp, ho, Instr.indexAt, hk, asIntOf, run_underlying he, hv', hb1, hb2, tm_sizeOf ok hte]
          · cases hs
        · cases hs
      · -- the whole of a row
        rename_i n1 k1 n2 u' xs
        split at hs
        · rename_i hu
          obtain ⟨hn1, hu⟩ := hu
          subst hn1 hu
          split at hs
          · rename_i hb
            obtain ⟨hb1, hb2⟩ := hb
            injection hs with hs
            subst hs
            have hkk := hown n1 k1 rfl
            have hv := hrep _ _ hkk.symm
            have hkr := hg.rep k1
            rw [← hkk] at hkr
            obtain ⟨A, c2, cs, hV2, q1, q2, q3, q4⟩ := hkr
            rcases q4 with ⟨q4, q5⟩ | ⟨ad, rfl, hm⟩
            · omega
            · refine did_into hg (v := .pointer (some (ad.add (n.toNat * u'.sz)))) (s := .apt n1 k1 [.idx n.toNat]) ?_ ⟨fun t' x' h' => ?_, fun t' xs' h' => ⟨ad, _, _, hV2, ?_⟩⟩ rfl hi
              · have hv' := hv.trans hV2
                simp [execOp, ho, Instr.indexAt, hk, asIntOf, run_underlying he, hv', hb1, hb2, tm_sizeOf ok hte]
              · rw [← hkk] at h'; cases h'
              · rw [← hkk] at h'
                injection h' with e1 e2 e3
                subst e2
                have h0 : offs u' [] = 0 := by cases u' <;> rfl
                simp [offs, h0]
          · cases hs
        · cases hs
      · -- a part of a row
        rename_i n1 k1 lo len n2 u' xs
        split at hs
        · rename_i hu
          obtain ⟨hn1, hu⟩ := hu
          subst hn1 hu
          split at hs
          · rename_i hb
            obtain ⟨hb1, hb2⟩ := hb
            injection hs with hs
            subst hs
            have hkk := hown n1 k1 rfl
            obtain ⟨h0, A, L', c, A', hV, hv, h8⟩ := hrep _ _ hkk.symm
            have hkr := hg.rep k1
            rw [← hkk] at hkr
            obtain ⟨A2, c2, cs, hV2, q1, q2, q3, q4⟩ := hkr
            rw [hV] at hV2
            injection hV2 with e1 e2 e3
            subst e1 e2 e3
            rcases q4 with ⟨q4, q5⟩ | ⟨ad, rfl, hm⟩
            · omega
            · rcases h8 with ⟨h8, _⟩ | ⟨ad2, j, h8, hA', _, hj⟩
              · cases h8
              · injection h8 with h8
                subst h8
                have hj' := hj (by omega)
                subst hj'
                subst hA'
                refine did_into hg (v := .pointer (some ((ad.add (lo * u'.sz)).add (n.toNat * u'.sz)))) (s := .apt n1 k1 [.idx (lo + n.toNat)]) ?_ ⟨fun t' x' h' => ?_, fun t' xs' h' => ⟨ad, _, _, hV, ?_⟩⟩ rfl hi
                · simp [execOp, ho, Instr.indexAt, hk, asIntOf, run_underlying he, hv, hb1, hb2, tm_sizeOf ok hte]
                · rw [← hkk] at h'; cases h'
                · rw [← hkk] at h'
                  injection h' with e1 e2 e3
                  subst e2
                  have h0 : offs u' [] = 0 := by cases u' <;> rfl
                  simp [offs, h0, add_add, Nat.add_mul]
          · cases hs
        · cases hs
      · cases hs
    · rename_i k' u htu
      obtain ⟨e, he, hte, hz⟩ := tab_arr ok htu
      split at hs
      · rename_i k2 u2 xs ha
        split at hs
        · rename_i hu
          obtain ⟨hk2, hu⟩ := hu
          subst hk2 hu
          split at hs
          · rename_i hb
            obtain ⟨hb1, hb2⟩ := hb
            have hlen : List.length xs = k2 := by
              obtain ⟨ad, cs, _, h1, _⟩ := aim_ok hg h ha
              exact h1.1
            have hlt : n.toNat < List.length xs := by omega
            have hgy : get (.arr k2 u2) xs [.idx n.toNat] = some ⟨u2, xs.getD n.toNat u2.dflt⟩ := by
              have := getD_some hlt u2.dflt
              simp only [get, this]
            obtain ⟨ad, hv, hrep', hlow⟩ := sub_addr hg h ha hgy (s := s) (by
              cases sl <;> exact hs)
            refine did_into hg ?_ hrep' hlow hi
            have h0 : offs u2 [] = 0 := by cases u2 <;> rfl
            simp [execOp, ho, Instr.indexAt, hk, asIntOf, run_underlying he, hv, Instr.sureAddr, hb1, hb2, tm_sizeOf ok hte, offs, h0]
          · cases hs
        · cases hs
      · cases hs
    · cases hs

end
end Go.Tm
