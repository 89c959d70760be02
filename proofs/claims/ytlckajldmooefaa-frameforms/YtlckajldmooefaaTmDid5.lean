/- What an operation does: structs and rows that are built; new rows; cuts; conversions; lengths; what is appended. -/
import Derived.Test.YtlckajldmooefaaTmDid4
import Derived.Laws.BytesString
import Derived.Laws.Slices
import Derived.Lib.ConvBytes
set_option linter.unusedVariables false
set_option linter.unusedSimpArgs false
namespace Go.Tm

theorem allRep.len {w : World} {R : Nat → Prop} : ∀ {ds : List Dv} {vs : List Value}, allRep w R ds vs → ds.length = vs.length
  | [], [], _ => rfl
  | d :: ds, v :: vs, h => by simp [allRep.len h.2]
  | [], _ :: _, h => h.elim
  | _ :: _, [], h => h.elim

theorem zip_parts (ρ : Operand → Value) (ps : List (Nat × Operand)) (ds : List Dv) (h : ds.length = ps.length) :
    (((ps.map (·.1)).zip ds).map (·.1)).zip ((ps.map (·.2)).map ρ) = ps.map (fun x => (x.1, ρ x.2)) ∧ ((ps.map (·.1)).zip ds).map (·.2) = ds := by
  induction ps generalizing ds with
  | nil => cases ds <;> simp_all
  | cons p ps ih =>
    cases ds with
    | nil => simp at h
    | cons d ds =>
      obtain ⟨h1, h2⟩ := ih ds (by simpa using h)
      exact ⟨by simp only [List.map_cons, List.zip_cons_cons, h1], by simp only [List.map_cons, List.zip_cons_cons, h2]⟩

section
variable {P : Program} {tab : Tab} (ok : TabOK P tab)
include ok

theorem places_ok : ∀ (u : Ty) (fs : List Field) (off : Nat), fieldsOK tab fs u off = true →
    ∃ places, fs.mapM (fun f => (P.info? f.type).map fun i => (f.offset, i.size)) = some places ∧ ∀ (i : Nat) (v : u.den) (t : Ty) (y : t.den), get u v [.fld i] = some ⟨t, y⟩ → places[i]? = some (off + offs u [.fld i], t.sz) := by
  intro u
  induction u with
  | prod a b iha ihb =>
    intro fs off hf
    cases fs with
    | nil => simp [fieldsOK] at hf
    | cons f fs =>
      simp only [fieldsOK, Bool.and_eq_true, beq_iff_eq, bne_iff_ne, decide_eq_true_eq] at hf
      obtain ⟨⟨⟨⟨ho, hn⟩, ht⟩, hz⟩, hr⟩ := hf
      obtain ⟨places, h1, h2⟩ := ihb fs _ hr
      obtain ⟨i, hi, hsz, _⟩ := tab_info' ok ht
      refine ⟨(f.offset, i.size) :: places, by simp [List.mapM_cons, hi, h1], fun j v t y hg => ?_⟩
      cases j with
      | zero =>
        simp only [get, Option.some.injEq, Sigma.mk.injEq] at hg
        obtain ⟨rfl, _⟩ := hg
        have h0 : offs a [] = 0 := by cases a <;> rfl
        simp [offs, h0, ho, hsz]
      | succ j =>
        simp only [get] at hg
        have := h2 j v.2 t y hg
        simp only [List.getElem?_cons_succ, this, offs]
        congr 2
        omega
  | unit =>
    intro fs off hf
    cases fs with
    | nil => exact ⟨[], by simp, fun i v t y h => by simp [get] at h⟩
    | cons f fs => simp [fieldsOK] at hf
  | int k => intro fs off hf; cases fs <;> simp [fieldsOK] at hf
  | bool => intro fs off hf; cases fs <;> simp [fieldsOK] at hf
  | str => intro fs off hf; cases fs <;> simp [fieldsOK] at hf
  | slice t _ => intro fs off hf; cases fs <;> simp [fieldsOK] at hf
  | arr n t _ => intro fs off hf; cases fs <;> simp [fieldsOK] at hf

theorem built_ok {t : TypeId} {u : Ty} (ht : ty tab t = some u) (hu : u.agg = true) {w : World} {R : Nat → Prop} {ps : List (Nat × Dv)} {vs : List Value} {v' : u.den} (hr : allRep w R (ps.map (·.2)) vs) (hf : fillT u u.dflt ps = some v') :
    ∃ cs', P.built t ((ps.map (·.1)).zip vs) = some cs'.toArray ∧ rep w R u v' cs' := by
  obtain ⟨i, hi, hsz, hz⟩ := tab_info' ok ht
  have h0 := rep_zero w R u
  have hc := mkv_cells h0
  cases u with
  | arr n u =>
    obtain ⟨e, h1, h2, h3⟩ := tab_arr ok ht
    obtain ⟨ie, hie, hies, _⟩ := tab_info' ok h2
    obtain ⟨cs', g1, g2⟩ := fill_ok (fun j => some (j * ie.size, ie.size)) ps vs _ _ v' _ h0 hr hf (fun j v t y hg => by
      simp only [way, get] at hg
      split at hg
      · simp only [Option.some.injEq] at hg
        rename_i z hz'
        have : (⟨u, z⟩ : Dv) = ⟨t, y⟩ := by simpa [get] using hg
        cases this
        have h00 : offs u [] = 0 := by cases u <;> rfl
        simp [way, offs, h00, hies]
      · cases hg)
    refine ⟨cs', ?_, g2⟩
    simp only [Program.built, hi, h1, hz, hie, hc, g1]
  | unit =>
    obtain ⟨fs, h1, h2⟩ := tab_struct ok ht (.inl rfl)
    obtain ⟨places, p1, p2⟩ := places_ok ok _ _ _ h2
    obtain ⟨cs', g1, g2⟩ := fill_ok (places.toArray[·]?) ps vs _ _ v' _ h0 hr hf (fun j v t y hg => by
      have := p2 j v t y hg
      simpa [way] using this)
    refine ⟨cs', ?_, g2⟩
    simp only [Program.built, hi, h1, hz, p1, hc, g1]
  | prod a b =>
    obtain ⟨fs, h1, h2⟩ := tab_struct ok ht (.inr ⟨a, b, rfl⟩)
    obtain ⟨places, p1, p2⟩ := places_ok ok _ _ _ h2
    obtain ⟨cs', g1, g2⟩ := fill_ok (places.toArray[·]?) ps vs _ _ v' _ h0 hr hf (fun j v t y hg => by
      have := p2 j v t y hg
      simpa [way] using this)
    refine ⟨cs', ?_, g2⟩
    simp only [Program.built, hi, h1, hz, p1, hc, g1]
  | int k => simp [Ty.agg] at hu
  | bool => simp [Ty.agg] at hu
  | str => simp [Ty.agg] at hu
  | slice t => simp [Ty.agg] at hu
end

section
variable {P : Program} {tab : Tab} {B : World} {R0 L : Nat → Prop} {st : St} {V : Nat → Value} {w : World} {N : Env} {a : Act} {o : Oper} {ups : Ups} {m : Nat}

theorem did_build (ok : TabOK P tab) (hg : Good B R0 L st V w) (hl : Link N V a) {t : TypeId} {u : Ty} {parts : Array (Nat × Operand)} {ls : List Lk} {ws : List (Option Ty)} {ds : List Dv} {us : Ups} {v' : u.den} {d : Nat}
    (ho : o.op = .build t parts) (hd : o.dst = some d) (ht : ty tab t = some u) (hu : u.agg = true) (hx : looks st (parts.toList.map (·.2)) = some ls) (hz : frzAll ls ws = some (ds, us))
    (hf : fillT u u.dflt ((parts.toList.map (·.1)).zip ds) = some v') : Did P B R0 L st V w a o (us ++ [(d, .val u v')]) := by
  obtain ⟨h1, h2⟩ := frzAll_ok hg hl hx hz
  have hg' := hg.frz h1
  have hlen := h2.len
  simp only [List.length_map, Array.length_toList] at hlen
  obtain ⟨z1, z2⟩ := zip_parts a.eval parts.toList ds (by simpa using hlen)
  obtain ⟨cs', g1, g2⟩ := built_ok ok ht hu (ps := (parts.toList.map (·.1)).zip ds) (vs := (parts.toList.map (·.2)).map a.eval) (by rw [z2]; exact h2) hf
  rw [z1] at g1
  have hrun := run_build (P := P) w t (parts.map fun x => (x.1, a.eval x.2)) _ (by simpa using g1)
  refine ⟨.agg cs'.toArray, w, .inl (by simp [execOp, ho]; simp [hrun]), ?_⟩
  rw [app_append]
  simp only [putO, hd, app_cons, app_nil]
  exact hg'.put d _ _ rfl rfl rfl rfl rfl ⟨cs', g2, by simp [mkv, hu]⟩ (fun n e => by cases e)

theorem flat_made {u : Ty} {w : World} {R : Nat → Prop} (h : 0 < u.sz) (n : Nat) : ((Array.range (n * u.sz)).map ((mkv u u.zeroV).cells[· % (mkv u u.zeroV).cells.size]!)) = (List.replicate n u.zeroV).flatten.toArray := by
  have h0 := rep_zero w R u
  have hl := rep_len _ h0
  rw [mkv_cells h0]
  have hne : u.zeroV ≠ [] := by intro e; rw [e] at hl; simp at hl; omega
  apply Array.ext'
  simp only [Array.toList_map, Array.toList_range, List.size_toArray, hl]
  induction n with
  | zero => simp
  | succ n ih =>
    rw [List.replicate_succ', List.flatten_append, ← ih, Nat.add_mul, Nat.one_mul, List.range_add, List.map_append]
    congr 1
    simp only [List.map_map, List.flatten_cons, List.flatten_nil, List.append_nil]
    apply List.ext_getElem
    · simp [hl]
    · intro i h1 h2
      simp only [List.length_map, List.length_range] at h1
      simp only [List.getElem_map, List.getElem_range, Function.comp]
      rw [Nat.mul_add_mod_self_right, Nat.mod_eq_of_lt h1]
      simp [hl, h1]

theorem did_buildSlice (ok : TabOK P tab) (hg : Good B R0 L st V w) (hl : Link N V a) (hfr : Fresh m st) {t : TypeId} {u : Ty} {len : Nat} {parts : Array (Nat × Operand)} {ls : List Lk} {ws : List (Option Ty)} {ds : List Dv} {us : Ups} {xs : List u.den} {d : Nat}
    (ho : o.op = .buildSlice t len parts) (hd : o.dst = some d) (ht : ty tab t = some (.slice u)) (hx : looks st (parts.toList.map (·.2)) = some ls) (hz : frzAll ls ws = some (ds, us))
    (hf : fillT (.arr len u) (List.replicate len u.dflt) ((parts.toList.map (·.1)).zip ds) = some xs) (hsm : len * u.sz ≤ 16777216) : Did P B R0 L st V w a o (us ++ [(d, .own m u xs)]) := by
  obtain ⟨h1, h2⟩ := frzAll_ok hg hl hx hz
  have hg' := hg.frz h1
  have hlen := h2.len
  simp only [List.length_map, Array.length_toList] at hlen
  obtain ⟨z1, z2⟩ := zip_parts a.eval parts.toList ds (by simpa using hlen)
  obtain ⟨e, he, hte, hsz⟩ := tab_slice ok ht
  obtain ⟨ie, hie, hies, hiez⟩ := tab_info' ok hte
  have hrow : rep w (RO B R0 (app us st) V) (.arr len u) (List.replicate len u.dflt) (List.replicate len u.zeroV).flatten := ⟨List.length_replicate, repList.replicate (rep_zero _ _ u) len⟩
  obtain ⟨cs', g1, g2⟩ := fill_ok (fun j => some (j * ie.size, ie.size)) ((parts.toList.map (·.1)).zip ds) ((parts.toList.map (·.2)).map a.eval) (.arr len u) _ xs _ hrow (by rw [z2]; exact h2) hf (fun j v t y hgt => by
      simp only [way, get] at hgt
      split at hgt
      · rename_i z hz'
        have : (⟨u, z⟩ : Dv) = ⟨t, y⟩ := by simpa [get] using hgt
        cases this
        have h00 : offs u [] = 0 := by cases u <;> rfl
        simp [way, offs, h00, hies]
      · cases hgt)
  rw [z1] at g1
  have hxl : xs.length = len := g2.1
  have hcl : cs'.length = len * u.sz := rep_len _ g2
  have hrun : (execOp a.eval o).run P w = .ok (.value (.slice (some ⟨w.heap.size, 0, none⟩) len len)) (w.alloc (.cells cs'.toArray e)) := by
    rcases Nat.eq_zero_or_pos len with h0 | hp
    · subst h0
      have hcs : cs' = [] := List.eq_nil_of_length_eq_zero (by simpa using hcl)
      subst hcs
      simp only [List.replicate_zero, List.flatten_nil] at g1
      have g1' : Instr.fill (fun j => some (j * u.sz, u.sz)) #[] (parts.map fun x => (x.1, a.eval x.2)).toList = some #[] := by rw [hies] at g1; simpa using g1
      simp only [Array.toList_map] at g1'
      simp [execOp, ho, Instr.buildSlice, run_underlying he, tm_sizeOf ok hte, newRow, g1', show Array.range 0 = #[] from rfl]
    · have := run_buildSlice (P := P) w t e len (parts.map fun x => (x.1, a.eval x.2)) cs'.toArray ie _ he hie hiez (by rw [hies]; omega) (by rw [hies]; have := Nat.mul_pos hp hsz; omega) (by
        rw [hies, flat_made (w := w) (R := fun _ => True) hsz]
        rw [hies] at g1
        simpa using g1)
      simp only [execOp, ho]
      simp [this]
  refine ⟨_, _, .inl hrun, ?_⟩
  rw [app_append]
  simp only [putO, hd, app_cons, app_nil]
  refine hg'.fresh d _ _ (but_alloc w _ none) (fun hR => ?_) (fun b hb => ?_) (fresh_own (hfr.app (fun p hp => (h1.low p hp).2)))
  · refine ⟨_, len, cs', by rw [hxl], by rw [hxl]; exact Nat.le_refl _, ?_, (g2.2.imp (fun x c _ hx => rep_mono (by simp) hR (fun b hb _ => Go.RowKit.Below.heap_alloc w _ b hb) _ hx)), .inr ⟨_, rfl, ?_⟩⟩
    · unfold maxLen
      have : len ≤ len * u.sz := Nat.le_mul_of_pos_right _ hsz
      omega
    · exact mem_new w _ e _ _ (by simp [hcl]) (by simp [hcl]) (fun j v hv => by simpa using hv)
  · simp only [ownBlk, Option.some.injEq] at hb
    omega

theorem did_makeSlice (ok : TabOK P tab) (hg : Good B R0 L st V w) (hl : Link N V a) (hfr : Fresh m st) {t : TypeId} {u : Ty} {x y : Operand} {lx ly : Lk} {l c : Int} {d : Nat}
    (ho : o.op = .makeSlice t x y) (hd : o.dst = some d) (ht : ty tab t = some (.slice u)) (hx : look st x = some lx) (hy : look st y = some ly) (hlx : intOf? lx = some l) (hly : intOf? ly = some c)
    (h0 : 0 ≤ l) (hlc : l ≤ c) (hb : c * (u.mx : Int) ≤ 281474976710656) : Did P B R0 L st V w a o [(d, .own m u (List.replicate l.toNat u.dflt))] := by
  obtain ⟨k1, e1⟩ := intOf_ok hg hl hx hlx
  obtain ⟨k2, e2⟩ := intOf_ok hg hl hy hly
  obtain ⟨e, he, hte, hsz⟩ := tab_slice ok ht
  obtain ⟨bytes, hlk⟩ := ty_lk hte
  obtain ⟨ie, hie, hies, hieb, hiez⟩ := tab_info ok hlk
  have hmx := tab_bytes ok hlk
  have hpos := Ty.mx_pos u hsz
  have hcb : (ie.bytes : Int) * c ≤ 281474976710656 := by
    rw [hieb, Int.mul_comm]
    refine Int.le_trans (Int.mul_le_mul_of_nonneg_left (by omega) (by omega)) hb
  have hc63 : c ≤ 281474976710656 := by
    refine Int.le_trans ?_ hb
    have := Int.mul_le_mul_of_nonneg_left (show (1 : Int) ≤ u.mx by omega) (show 0 ≤ c by omega)
    omega
  have hrun := run_make (P := P) w t e ie _ he hie hiez k1 k2 l c h0 hlc hcb (by omega)
  have hrun' : (execOp a.eval o).run P w = .ok (.value (.slice (some ⟨w.heap.size, 0, none⟩) l.toNat c.toNat)) (w.alloc (.cells (madeCells (mkv u u.zeroV).cells (c.toNat * ie.size)) e)) := by
    simp only [execOp, ho]
    simp [e1, e2, hrun]
  refine ⟨_, _, .inl hrun', ?_⟩
  simp only [putO, hd, app_cons, app_nil]
  refine hg.fresh d _ _ (but_alloc w _ none) (fun hR => ?_) (fun b hb => ?_) (fresh_own hfr)
  · have hfl : madeCells (mkv u u.zeroV).cells (c.toNat * ie.size) = (List.replicate c.toNat u.zeroV).flatten.toArray := by
      rw [hies]; exact flat_made (w := w) (R := fun _ => True) hsz c.toNat
    have hall : rep w (fun _ => True) (.arr c.toNat u) (List.replicate c.toNat u.dflt) (List.replicate c.toNat u.zeroV).flatten := ⟨List.length_replicate, repList.replicate (rep_zero _ _ u) _⟩
    have hcl := rep_len _ hall
    simp only [Ty.sz] at hcl
    refine ⟨some ⟨w.heap.size, 0, none⟩, c.toNat, (List.replicate l.toNat u.zeroV).flatten, by simp, by simp; omega, ?_, repList.replicate (rep_zero _ _ u) _, .inr ⟨_, rfl, ?_⟩⟩
    · unfold maxLen
      omega
    · rw [hfl]
      have hle : l.toNat ≤ c.toNat := by omega
      have hsplit : (List.replicate c.toNat u.zeroV).flatten = (List.replicate l.toNat u.zeroV).flatten ++ (List.replicate (c.toNat - l.toNat) u.zeroV).flatten := by
        rw [← List.flatten_append, List.replicate_append_replicate]
        congr 2
        omega
      refine mem_new w _ e _ _ (by simp only [List.size_toArray, hcl]; exact Nat.le_refl _) ?_ (fun j v hv => ?_)
      · rw [← hcl, hsplit]
        simp
      · rw [hsplit]
        simp only [List.getElem?_toArray]
        rw [List.getElem?_append_left (by
          rcases Nat.lt_or_ge j ((List.replicate l.toNat u.zeroV).flatten.length) with h | h
          · exact h
          · rw [List.getElem?_eq_none h] at hv; cases hv)]
        exact hv
  · simp only [ownBlk, Option.some.injEq] at hb
    omega

end
end Go.Tm
