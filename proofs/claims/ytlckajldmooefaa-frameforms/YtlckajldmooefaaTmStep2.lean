/- One operation does what step says (all but calls of functions). -/
import Derived.Test.YtlckajldmooefaaTmStep
set_option linter.unusedVariables false
set_option linter.unusedSimpArgs false
namespace Go.Tm

section
variable {P : Program} {tab : Tab} {Γ : Cons} {B : World} {R0 L : Nat → Prop} {st : St} {V : Nat → Value} {w : World} {N : Env} {a : Act} {o : Oper} {ups : Ups} {m : Nat} {ls : List Lk}

theorem cast_cast {u t : Ty} {x : u.den} {y : t.den} (h : castTo u t x = some y) : ∃ e : u = t, y = e ▸ x := by
  unfold castTo at h
  split at h
  · rename_i e
    injection h with h
    exact ⟨e, h.symm⟩
  · cases h

theorem pick_did (hg : Good B R0 L st V w) (hl : Link N V a) {c x y : Operand} {lc lx ly : Lk} (ho : o.op = .pick c x y) (h1 : look st c = some lc) (h2 : look st x = some lx) (h3 : look st y = some ly)
    (hs : stepPick o.dst lc lx ly = some ups) : Did P B R0 L st V w a o ups := by
  have k1 := look_ok hg hl h1
  have k2 := look_ok hg hl h2
  have k3 := look_ok hg hl h3
  have r1 := k1.rep
  have r2 := k2.rep
  have r3 := k3.rep
  unfold stepPick at hs
  split at hs
  · rename_i q hq
    rw [hq] at r1
    have hc := vrep_bool r1
    split at hs
    · rename_i t v u z e1 e2
      split at hs
      · rename_i y' hc'
        obtain ⟨rfl, rfl⟩ := cast_cast hc'
        rw [e1] at r2
        rw [e2] at r3
        refine did_pick hg ho hc r2 rfl r3 rfl ?_
        cases q <;> simpa using hs
      · cases hs
    · exact did_pick hg ho hc r2 k2.low r3 k3.low hs
  · cases hs

/-- A call of a function of the program or of the library (not of a builtin). -/
def isFn : Op → Bool
  | .call c => match c.callee with
    | .builtin _ => false
    | _ => true
  | _ => false

theorem bin_did (ok : TabOK P tab) (hg : Good B R0 L st V w) (hl : Link N V a) {op : BinOp} {xt yt : TypeId} {x y : Operand} {lx ly : Lk} (ho : o.op = .binOp op xt x y yt) (h1 : look st x = some lx) (h2 : look st y = some ly)
    (hs : stepBin tab op xt o.dst lx ly = some ups) : Did P B R0 L st V w a o ups := by
  obtain ⟨s1, c1⟩ := lx
  obtain ⟨s2, c2⟩ := ly
  cases s1 with
  | val t v => cases s2 with
    | val u z =>
      simp only [stepBin] at hs
      split at hs
      · rename_i hc
        split at hs
        · rename_i r hr
          refine did_bin ok hg hl ho h1 h2 hr ?_ hs
          cases t <;> first | rfl | exact hc
        · cases hs
      · cases hs
    | _ => simp [stepBin] at hs
  | _ => simp [stepBin] at hs

theorem index_did (ok : TabOK P tab) (hg : Good B R0 L st V w) (hl : Link N V a) {t : TypeId} {x i : Operand} {lx li : Lk} (ho : o.op = .index t x i) (h1 : look st x = some lx) (h2 : look st i = some li)
    (hs : stepIndex tab t o.dst lx li = some ups) : Did P B R0 L st V w a o ups := by
  obtain ⟨s1, c1⟩ := lx
  unfold stepIndex at hs
  simp only at hs
  split at hs
  · rename_i n hn
    split at hs
    · split at hs
      · rename_i hc
        exact did_index_str ok hg hl ho h1 h2 hc.1 hn hc.2.1 hc.2.2 hs
      · cases hs
    · split at hs
      · rename_i hc
        exact did_index_arr ok hg hl ho h1 h2 hc.1 hn hc.2.1 hc.2.2 hs
      · cases hs
    · cases hs
  · cases hs

theorem len_did (ok : TabOK P tab) (hg : Good B R0 L st V w) (hl : Link N V a) {x : Operand} {l : Lk} {t : TypeId} {n : Nat} (ho : o.op = .call { callee := .builtin .len, args := #[x], argTypes := #[t] }) (hx : look st x = some l)
    (hn : lenOf? tab t l = some n) (hi : into o.dst (.val (.int .i64) (n : Int)) = some ups) : Did P B R0 L st V w a o ups := by
  refine did_len ok hg hl ho hx ?_ hi
  obtain ⟨s, c⟩ := l
  unfold lenOf? at hn
  simp only at hn
  split at hn
  · rename_i ht
    split at hn
    · injection hn with hn
      exact .inl ⟨_, _, rfl, ht, hn.symm⟩
    · cases hn
  · rename_i u ht
    refine .inr (.inl ⟨u, ht, ?_⟩)
    split at hn
    · injection hn with hn
      exact .inr ⟨rfl, hn.symm⟩
    · split at hn
      · rename_i x hx'
        injection hn with hn
        exact .inl ⟨x.1, x.2, hx', hn.symm⟩
      · cases hn
  · rename_i k u ht
    injection hn with hn
    subst hn
    exact .inr (.inr ⟨u, ht⟩)
  · cases hn

theorem toList_one {α : Type} {xs : Array α} {x : α} (h : xs.toList = [x]) : xs = #[x] := by
  apply Array.ext'; rw [h]
theorem toList_two {α : Type} {xs : Array α} {x y : α} (h : xs.toList = [x, y]) : xs = #[x, y] := by
  apply Array.ext'; rw [h]

theorem call_did (ok : TabOK P tab) (hg : Good B R0 L st V w) (hl : Link N V a) (hf : Fresh m st) {c : Call} (ho : o.op = .call c) (hn : isFn (.call c) = false) (hx : looks st c.args.toList = some ls)
    (hs : stepCall tab Γ c o.dst m ls = some ups) : Did P B R0 L st V w a o ups := by
  obtain ⟨callee, args, ts⟩ := c
  unfold stepCall at hs
  simp only at hs hx
  split at hs
  · split at hs
    · rename_i l x t e1 e2
      rw [e1] at hx
      have := toList_one e1
      have := toList_one e2
      subst_vars
      split at hs
      · rename_i n hn'
        exact len_did ok hg hl ho (looks_one hx) hn' hs
      · cases hs
    · cases hs
  · split at hs
    · rename_i lx ly x y t t2 e1 e2
      rw [e1] at hx
      have := toList_two e1
      have := toList_two e2
      subst_vars
      exact did_append ok hg hl hf ho (looks_two hx).1 (looks_two hx).2 hs
    · cases hs
  · split at hs
    · rename_i l r
      cases hargs : args.toList with
      | nil => rw [hargs] at hx; simp [looks] at hx
      | cons x xs =>
        rw [hargs] at hx
        split at hs
        · rename_i k n hl'
          split at hs
          · rename_i z hz
            exact did_min (isMin := true) hg hl ho hargs hx hl' hz hs
          · cases hs
        · cases hs
    · cases hs
  · split at hs
    · rename_i l r
      cases hargs : args.toList with
      | nil => rw [hargs] at hx; simp [looks] at hx
      | cons x xs =>
        rw [hargs] at hx
        split at hs
        · rename_i k n hl'
          split at hs
          · rename_i z hz
            exact did_min (isMin := false) hg hl ho hargs hx hl' hz hs
          · cases hs
        · cases hs
    · cases hs
  · simp [isFn] at hn
  · cases hs

theorem un_did (hg : Good B R0 L st V w) (hl : Link N V a) {op : UnOp} {xt : TypeId} {x : Operand} {lx : Lk} (ho : o.op = .unOp op xt x) (h1 : look st x = some lx)
    (hs : stepUn op o.dst lx = some ups) : Did P B R0 L st V w a o ups := by
  obtain ⟨s1, c1⟩ := lx
  cases s1 with
  | val t v =>
    simp only [stepUn] at hs
    split at hs
    · rename_i r hr
      exact did_un hg hl ho h1 hr hs
    · cases hs
  | _ => simp [stepUn] at hs

theorem make_did (ok : TabOK P tab) (hg : Good B R0 L st V w) (hl : Link N V a) (hf : Fresh m st) {t : TypeId} {x y : Operand} {lx ly : Lk} (ho : o.op = .makeSlice t x y) (h1 : look st x = some lx) (h2 : look st y = some ly)
    (hs : stepMake tab t o.dst m lx ly = some ups) : Did P B R0 L st V w a o ups := by
  unfold stepMake at hs
  split at hs
  · rename_i d u l c hd ht hl' hc'
    split at hs
    · rename_i hc
      injection hs with hs
      subst hs
      exact did_makeSlice ok hg hl hf ho hd ht h1 h2 hl' hc' hc.1 hc.2.1 hc.2.2
    · cases hs
  · cases hs

theorem build_did (ok : TabOK P tab) (hg : Good B R0 L st V w) (hl : Link N V a) {t : TypeId} {ps : Array (Nat × Operand)} (ho : o.op = .build t ps) (hx : looks st (ps.toList.map (·.2)) = some ls)
    (hs : stepBuild tab t (ps.toList.map (·.1)) o.dst ls = some ups) : Did P B R0 L st V w a o ups := by
  unfold stepBuild at hs
  split at hs
  · rename_i d u hd ht
    split at hs
    · rename_i hag
      split at hs
      · rename_i ds us hz
        split at hs
        · rename_i v hv
          injection hs with hs
          subst hs
          exact did_build ok hg hl ho hd ht hag hx hz hv
        · cases hs
      · cases hs
    · cases hs
  · cases hs

theorem buildSlice_did (ok : TabOK P tab) (hg : Good B R0 L st V w) (hl : Link N V a) (hf : Fresh m st) {t : TypeId} {len : Nat} {ps : Array (Nat × Operand)} (ho : o.op = .buildSlice t len ps) (hx : looks st (ps.toList.map (·.2)) = some ls)
    (hs : stepBuildSlice tab t len (ps.toList.map (·.1)) o.dst m ls = some ups) : Did P B R0 L st V w a o ups := by
  unfold stepBuildSlice at hs
  split at hs
  · rename_i d u hd ht
    split at hs
    · rename_i hag
      split at hs
      · rename_i ds us hz
        split at hs
        · rename_i v hv
          injection hs with hs
          subst hs
          exact did_buildSlice ok hg hl hf ho hd ht hx hz hv hag
        · cases hs
      · cases hs
    · cases hs
  · cases hs

theorem step_did (ok : TabOK P tab) (hg : Good B R0 L st V w) (hl : Link N V a) (hf : Fresh m st) (hn : isFn o.op = false) (hx : looks st (opnds o.op) = some ls)
    (hs : step tab Γ o m ls = some ups) : Did P B R0 L st V w a o ups := by
  unfold step at hs
  split at hs
  · rename_i e
    rw [e] at hx
    exact did_move hg hl (.inl e) (looks_one hx) hs
  · rename_i e
    rw [e] at hx
    exact did_assign hg hl hf e (looks_one hx) hs
  · rename_i e
    rw [e] at hx
    obtain ⟨h1, h2, h3⟩ := looks_three hx
    exact pick_did hg hl e h1 h2 h3 hs
  · rename_i e
    split at hs
    · rename_i d u hd ht
      injection hs with hs
      subst hs
      exact did_alloc ok hg hf e hd ht
    · cases hs
  · rename_i e
    rw [e] at hx
    split at hs
    · rename_i d y u hd hz
      injection hs with hs
      subst hs
      exact did_box hg hl hf e hd (looks_one hx) hz
    · cases hs
  · rename_i e
    rw [e] at hx
    exact build_did ok hg hl e hx hs
  · rename_i e
    rw [e] at hx
    exact buildSlice_did ok hg hl hf e hx hs
  · rename_i e
    rw [e] at hx
    split at hs
    · rename_i d hd
      split at hs
      · rename_i ht
        exact did_load ok hg hl e (looks_one hx) hd ht hs
      · cases hs
    · cases hs
  · rename_i e
    rw [e] at hx
    split at hs
    · rename_i hd
      exact did_store ok hg hl e (by simpa using hd) (looks_two hx).1 (looks_two hx).2 hs
    · cases hs
  · rename_i e
    rw [e] at hx
    split at hs
    · rename_i hsm
      obtain ⟨d, hd⟩ := Option.isSome_iff_exists.1 hsm
      obtain ⟨ad, cs, hv, _⟩ := aim_ok hg (look_ok hg hl (looks_one hx)) hd
      exact did_move hg hl (.inr ⟨e, ad, hv⟩) (looks_one hx) hs
    · cases hs
  · rename_i e
    rw [e] at hx
    exact bin_did ok hg hl e (looks_two hx).1 (looks_two hx).2 hs
  · rename_i e
    rw [e] at hx
    exact un_did hg hl e (looks_one hx) hs
  · rename_i e
    rw [e] at hx
    exact did_convert ok hg hl hf e (looks_one hx) hs
  · rename_i e
    rw [e] at hx
    exact make_did ok hg hl hf e (looks_two hx).1 (looks_two hx).2 hs
  · rename_i e
    rw [e] at hx
    exact sl_did ok hg hl e (looks_one hx) rfl rfl hs
  · rename_i e
    rw [e] at hx
    exact sl_did ok hg hl e (looks_two hx).1 (by simp only [lookO, (looks_two hx).2]; rfl) rfl hs
  · rename_i e
    rw [e] at hx
    exact sl_did ok hg hl e (looks_two hx).1 rfl (by simp only [lookO, (looks_two hx).2]; rfl) hs
  · rename_i e
    rw [e] at hx
    obtain ⟨h1, h2, h3⟩ := looks_three hx
    exact sl_did ok hg hl e h1 (by simp only [lookO, h2]; rfl) (by simp only [lookO, h3]; rfl) hs
  · rename_i e
    rw [e] at hx
    split at hs
    · rename_i s h
      exact did_fieldAddr ok hg hl e (looks_one hx) h hs
    · cases hs
  · rename_i x e
    rw [e] at hx
    obtain ⟨s1, c1⟩ := x
    cases s1 with
    | val u v =>
      simp only at hs
      split at hs
      · rename_i ht
        split at hs
        · rename_i y hy
          exact did_field ok hg hl e (looks_one hx) ht hy hs
        · cases hs
      · cases hs
    | _ => simp at hs
  · rename_i e
    rw [e] at hx
    split at hs
    · rename_i s h
      exact did_indexAddr ok hg hl e (looks_two hx).1 (looks_two hx).2 h hs
    · cases hs
  · rename_i e
    rw [e] at hx
    exact index_did ok hg hl e (looks_two hx).1 (looks_two hx).2 hs
  · rename_i x e
    rw [e] at hx
    obtain ⟨s1, c1⟩ := x
    cases s1 with
    | tup l =>
      simp only at hs
      split at hs
      · rename_i d hd
        exact did_extract hg hl e (looks_one hx) hd hs
      · cases hs
    | _ => simp at hs
  · rename_i x e
    rw [e] at hx
    obtain ⟨s1, c1⟩ := x
    cases s1 with
    | val t v =>
      simp only at hs
      split at hs
      · rename_i ht
        exact did_iface ok hg hl e (looks_one hx) rfl ht hs
      · cases hs
    | _ => simp at hs
  · rename_i e
    rw [e] at hx hn
    exact call_did ok hg hl hf e hn hx hs
  · cases hs

end
end Go.Tm
