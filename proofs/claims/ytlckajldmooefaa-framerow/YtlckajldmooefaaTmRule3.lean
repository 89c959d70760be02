/- Rules by which simp sees what a step turns. -/
import Derived.Test.YtlckajldmooefaaTmRule2
set_option linter.unusedVariables false
set_option linter.unusedSimpArgs false
namespace Go.Tm

section
variable {tab : Tab} {Γ : Cons} {d : Option Tmp} {m : Nat} {st : St} {K : Ups → Prop} {t t2 : TypeId} {c c' : Slot} {u u' : Ty} {n s n' : Nat} {lo len : Nat}

theorem opt_ite_none {α : Type} {p : Prop} [Decidable p] {x : Option α} {K : α → Prop} : opt (if p then none else x) K = (¬ p ∧ opt x K) := by
  by_cases h : p <;> simp [h, opt]
theorem opt_cast {u : Ty} {x : u.den} {F : u.den → Prop} : opt (castTo u u x) F = F x := by simp [opt]
theorem bind_opt {α β : Type} {o : Option α} {f : α → Option β} {F : β → Prop} : opt (match o with | some a => f a | none => none) F = opt o fun a => opt (f a) F := by
  cases o <;> simp [opt]

theorem into_none {s : Slot} : opt (into none s) K = K [] := by simp [into, opt]
theorem into_dst {i : Nat} {s : Slot} : opt (into (some i) s) K = ((aliasOf s).map (·.2) ≠ some i ∧ K [(i, s)]) := by
  simp only [into, opt_ite_none, opt_some, ne_eq]
theorem into_v {i : Nat} {v : u.den} : opt (into (some i) (.val u v)) K = K [(i, .val u v)] := by simp [into_dst, aliasOf]
theorem into_nil {i : Nat} : opt (into (some i) .nil) K = K [(i, .nil)] := by simp [into_dst, aliasOf]
theorem into_dead {i : Nat} : opt (into (some i) .dead) K = K [(i, .dead)] := by simp [into_dst, aliasOf]
theorem into_rpt {i : Nat} {v : u.den} : opt (into (some i) (.rpt u v)) K = K [(i, .rpt u v)] := by simp [into_dst, aliasOf]
theorem into_tup {i : Nat} {l : List Dv} : opt (into (some i) (.tup l)) K = K [(i, .tup l)] := by simp [into_dst, aliasOf]
theorem into_asl {i : Nat} {rg : Option (Nat × Nat)} : opt (into (some i) (.asl n s rg)) K = (s ≠ i ∧ K [(i, .asl n s rg)]) := by simp [into_dst, aliasOf]
theorem into_apt {i : Nat} {p : List Way} : opt (into (some i) (.apt n s p)) K = (s ≠ i ∧ K [(i, .apt n s p)]) := by simp [into_dst, aliasOf]

theorem assign_none {l : Lk} : opt (stepAssign none m l) K = K [] := by simp [stepAssign, opt]
theorem assign_v {i : Nat} {v : u.den} : opt (stepAssign (some i) m ⟨.val u v, c⟩) K = K [(i, .val u v)] := by simp only [stepAssign, into_v]
theorem assign_nil {i : Nat} : opt (stepAssign (some i) m ⟨.nil, c⟩) K = K [(i, .nil)] := by simp only [stepAssign, into_nil]
theorem assign_dead {i : Nat} : opt (stepAssign (some i) m ⟨.dead, c⟩) K = K [(i, .dead)] := by simp only [stepAssign, into_dead]
theorem assign_rpt {i : Nat} {v : u.den} : opt (stepAssign (some i) m ⟨.rpt u v, c⟩) K = K [(i, .rpt u v)] := by simp only [stepAssign, into_rpt]
theorem assign_tup {i : Nat} {l : List Dv} : opt (stepAssign (some i) m ⟨.tup l, c⟩) K = K [(i, .tup l)] := by simp only [stepAssign, into_tup]
theorem assign_row {i : Nat} {xs : List u.den} : opt (stepAssign (some i) m ⟨.asl n s none, .own n' u xs⟩) K = (n = n' ∧ if s = i then K [] else K [(s, .asl m i none), (i, .own m u xs)]) := by
  simp only [stepAssign, opt_ite]
  by_cases h : s = i <;> simp [h, opt]
theorem assign_part {i : Nat} {xs : List u.den} : opt (stepAssign (some i) m ⟨.asl n s (some (lo, len)), .own n' u xs⟩) K = (n = n' ∧ if s = i then K [(i, .own m u ((xs.drop lo).take len))] else K [(i, .asl n s (some (lo, len)))]) := by
  simp only [stepAssign, opt_ite]
  by_cases h : s = i <;> simp [h, opt]
theorem assign_obj {i : Nat} {v : u.den} : opt (stepAssign (some i) m ⟨.apt n s [], .obj n' u v⟩) K = (n = n' ∧ if s = i then K [] else if ghost ≤ s then K [(i, .apt n s [])] else K [(s, .apt m i []), (i, .obj m u v)]) := by
  simp only [stepAssign, opt_ite]
  by_cases h : s = i
  · simp [h, opt]
  · by_cases h2 : ghost ≤ s <;> simp [h, h2, opt]
theorem assign_apt {i : Nat} {q : Way} {p : List Way} : opt (stepAssign (some i) m ⟨.apt n s (q :: p), c⟩) K = (s ≠ i ∧ K [(i, .apt n s (q :: p))]) := by
  rw [← into_apt]; cases c <;> simp only [stepAssign]

theorem frz_val {v : u.den} {w : Option Ty} {F : Dv × Ups → Prop} : opt (frz ⟨.val u v, c⟩ w) F = F (⟨u, v⟩, []) := by simp [frz, opt]
theorem frz_nil {F : Dv × Ups → Prop} : opt (frz ⟨.nil, c⟩ (some (.slice u))) F = F (⟨.slice u, []⟩, []) := by simp [frz, opt]
theorem frz_row {xs : List u.den} {w : Option Ty} {F : Dv × Ups → Prop} : opt (frz ⟨.asl n s none, .own n' u xs⟩ w) F = (n = n' ∧ F (⟨.slice u, xs⟩, [(s, .val (.slice u) xs)])) := by
  simp only [frz, opt_ite, opt_some]
theorem frz_part {xs : List u.den} {w : Option Ty} {F : Dv × Ups → Prop} : opt (frz ⟨.asl n s (some (lo, len)), .own n' u xs⟩ w) F = (n = n' ∧ F (⟨.slice u, (xs.drop lo).take len⟩, [(s, .val (.slice u) xs)])) := by
  simp only [frz, opt_ite, opt_some]

theorem aim_rpt {v : u.den} {F : Dv → Prop} : opt (aim ⟨.rpt u v, c⟩) F = F ⟨u, v⟩ := by simp [aim, opt]
theorem aim_obj {v : u.den} {p : List Way} {F : Dv → Prop} : opt (aim ⟨.apt n s p, .obj n' u v⟩) F = (n = n' ∧ opt (get u v p) F) := by
  cases p <;> simp only [aim, opt_ite]
theorem aim_own {xs : List u.den} {q : Way} {p : List Way} {F : Dv → Prop} : opt (aim ⟨.apt n s (q :: p), .own n' u xs⟩) F = (n = n' ∧ opt (get (.arr 0 u) xs (q :: p)) F) := by
  simp only [aim, opt_ite]

theorem get_nil {v : u.den} {F : Dv → Prop} : opt (get u v []) F = F ⟨u, v⟩ := by cases u <;> simp [get, opt]
theorem get_fst {a b : Ty} {v : (Ty.prod a b).den} {p : List Way} {F : Dv → Prop} : opt (get (.prod a b) v (.fld 0 :: p)) F = opt (get a v.1 p) F := rfl
theorem get_snd {a b : Ty} {v : (Ty.prod a b).den} {j : Nat} {p : List Way} {F : Dv → Prop} : opt (get (.prod a b) v (.fld (j + 1) :: p)) F = opt (get b v.2 (.fld j :: p)) F := rfl
theorem get_idx {k i : Nat} {xs : List u.den} {p : List Way} {F : Dv → Prop} : opt (get (.arr k u) xs (.idx i :: p)) F = (i < xs.length ∧ opt (get u (xs.getD i u.dflt) p) F) := by
  simp only [get]
  by_cases h : i < xs.length
  · simp [h, List.getD_eq_getElem?_getD]
  · simp [h, opt]

/-- A part of a value is turned. -/
def updK (u : Ty) (v : u.den) (p : List Way) (u' : Ty) (y : u'.den) (F : u.den → Prop) : Prop := opt (upd u v p u' y) F
def castK (u t : Ty) (x : u.den) (F : t.den → Prop) : Prop := opt (castTo u t x) F
@[congr] theorem updK_congr {u u' : Ty} {v v2 : u.den} {p p2 : List Way} {y y2 : u'.den} {F : u.den → Prop} (h : v = v2) (hp : p = p2) (hy : y = y2) : updK u v p u' y F = updK u v2 p2 u' y2 F := by rw [h, hp, hy]
@[congr] theorem castK_congr {u t : Ty} {x x2 : u.den} {F : t.den → Prop} (h : x = x2) : castK u t x F = castK u t x2 F := by rw [h]
theorem castK_self {u : Ty} {x : u.den} {F : u.den → Prop} : castK u u x F = F x := opt_cast
theorem updo_nil {v : u.den} {y : u'.den} {F : u.den → Prop} : updK u v [] u' y F = castK u' u y F := by cases u <;> rfl
theorem upd_fst {a b : Ty} {v : (Ty.prod a b).den} {p : List Way} {y : u'.den} {F : (Ty.prod a b).den → Prop} : updK (.prod a b) v (.fld 0 :: p) u' y F = updK a v.1 p u' y fun z => F (z, v.2) := by
  simp only [updK, upd, opt_map]
theorem upd_snd {a b : Ty} {v : (Ty.prod a b).den} {j : Nat} {p : List Way} {y : u'.den} {F : (Ty.prod a b).den → Prop} : updK (.prod a b) v (.fld (j + 1) :: p) u' y F = updK b v.2 (.fld j :: p) u' y fun z => F (v.1, z) := by
  simp only [updK, upd, opt_map]
theorem upd_idx {k i : Nat} {xs : List u.den} {p : List Way} {y : u'.den} {F : List u.den → Prop} : updK (.arr k u) xs (.idx i :: p) u' y F = (i < xs.length ∧ updK u (xs.getD i u.dflt) p u' y fun z => F (xs.set i z)) := by
  simp only [updK, upd]
  by_cases h : i < xs.length
  · simp only [h, List.getElem?_eq_getElem, true_and, List.getD_eq_getElem?_getD, Option.getD_some]
    rw [opt_map]
  · simp [h, opt]

theorem store_obj {v : u.den} {p : List Way} {l : Lk} : opt (stepStore tab t ⟨.apt n s p, .obj n' u v⟩ l) K = opt (frz l (ty tab t)) fun r => ty tab t = some r.1.1 ∧ n = n' ∧ updK u v p r.1.1 r.1.2 fun z => K ((s, .obj n' u z) :: r.2) := by
  simp only [stepStore, updK]
  cases frz l (ty tab t) with
  | none => simp [opt]
  | some r =>
    simp only [opt_some]
    by_cases h1 : ty tab t = some r.1.1
    · by_cases h2 : n = n'
      · simp only [h1, h2, if_true, true_and]
        cases p <;> (cases upd u v _ r.1.1 r.1.2 <;> simp [opt])
      · cases p <;> simp [h1, h2, opt]
    · simp [h1, opt]

theorem store_own {xs : List u.den} {q : Way} {p : List Way} {l : Lk} : opt (stepStore tab t ⟨.apt n s (q :: p), .own n' u xs⟩ l) K = opt (frz l (ty tab t)) fun r => ty tab t = some r.1.1 ∧ (n = n' ∧ r.2.all (fun z => decide (z.1 ≠ s)) = true) ∧ updK (.arr 0 u) xs (q :: p) r.1.1 r.1.2 fun z => K ((s, .own n u z) :: r.2) := by
  simp only [stepStore, updK]
  cases frz l (ty tab t) with
  | none => simp [opt]
  | some r =>
    simp only [opt_some]
    by_cases h1 : ty tab t = some r.1.1
    · by_cases h2 : n = n' ∧ r.2.all (fun z => decide (z.1 ≠ s)) = true
      · rw [if_pos h1, if_pos h2]
        simp only [h1, h2, true_and]
        cases upd (.arr 0 u) xs (q :: p) r.1.1 r.1.2 <;> simp [opt]
      · rw [if_pos h1, if_neg h2]
        simp only [opt_none, h1, true_and]
        simp only [h2, false_and]
    · rw [if_neg h1]
      simp [h1, opt]

theorem ixa_val {k : IntKind} {i : Int} {xs : List u.den} {F : Slot → Prop} : opt (stepIndexAddr tab t ⟨.val (.slice u) xs, c⟩ ⟨.val (.int k) i, c'⟩) F = (ty tab t = some (.slice u) ∧ (0 ≤ i ∧ i < (xs.length : Int)) ∧ F (.rpt u (xs.getD i.toNat u.dflt))) := by
  simp only [stepIndexAddr, intOf?]
  cases h : ty tab t with
  | none => simp [opt]
  | some T =>
    cases T with
    | slice v =>
      by_cases e : u = v
      · subst e
        simp only [if_true, opt_ite, opt_some, true_and]
      · have : ¬ v = u := fun h => e h.symm
        simp [e, this, opt]
    | arr k v => simp [aim, opt]
    | _ => simp [opt]
theorem ixa_row {k : IntKind} {i : Int} {xs : List u.den} {F : Slot → Prop} : opt (stepIndexAddr tab t ⟨.asl n s none, .own n' u xs⟩ ⟨.val (.int k) i, c'⟩) F = (ty tab t = some (.slice u) ∧ n = n' ∧ (0 ≤ i ∧ i < (xs.length : Int)) ∧ F (.apt n s [.idx i.toNat])) := by
  simp only [stepIndexAddr, intOf?]
  cases h : ty tab t with
  | none => simp [opt]
  | some T =>
    cases T with
    | slice v =>
      by_cases e : u = v
      · subst e
        simp only [and_true, opt_ite, opt_some, true_and]
      · have : ¬ v = u := fun h => e h.symm
        simp [e, this, opt]
    | arr k v => simp [aim, opt]
    | _ => simp [opt]
theorem ixa_part {k : IntKind} {i : Int} {xs : List u.den} {F : Slot → Prop} : opt (stepIndexAddr tab t ⟨.asl n s (some (lo, len)), .own n' u xs⟩ ⟨.val (.int k) i, c'⟩) F = (ty tab t = some (.slice u) ∧ n = n' ∧ (0 ≤ i ∧ i < (len : Int)) ∧ F (.apt n s [.idx (lo + i.toNat)])) := by
  simp only [stepIndexAddr, intOf?]
  cases h : ty tab t with
  | none => simp [opt]
  | some T =>
    cases T with
    | slice v =>
      by_cases e : u = v
      · subst e
        simp only [and_true, opt_ite, opt_some, true_and]
      · have : ¬ v = u := fun h => e h.symm
        simp [e, this, opt]
    | arr k v => simp [aim, opt]
    | _ => simp [opt]

/-- An element of an array that an address leads to. -/
def arrAt (tab : Tab) (t : TypeId) (i : Int) (w : Dv) (F : (u : Ty) → u.den → Prop) : Prop :=
  match w with
  | ⟨.arr k u, xs⟩ => ty tab t = some (.arr k u) ∧ (0 ≤ i ∧ i < (k : Int)) ∧ F u (xs.getD i.toNat u.dflt)
  | _ => False
@[congr] theorem arrAt_congr {i i2 : Int} {w w2 : Dv} {F : (u : Ty) → u.den → Prop} (h : i = i2) (hw : w = w2) : arrAt tab t i w F = arrAt tab t i2 w2 F := by rw [h, hw]
theorem arrAt_arr {k : Nat} {xs : List u.den} {i : Int} {F : (u : Ty) → u.den → Prop} : arrAt tab t i ⟨.arr k u, xs⟩ F = (ty tab t = some (.arr k u) ∧ (0 ≤ i ∧ i < (k : Int)) ∧ F u (xs.getD i.toNat u.dflt)) := rfl

theorem ixa_rpt {k : IntKind} {i : Int} {v : u.den} {F : Slot → Prop} : opt (stepIndexAddr tab t ⟨.rpt u v, c⟩ ⟨.val (.int k) i, c'⟩) F = arrAt tab t i ⟨u, v⟩ fun u' y => F (.rpt u' y) := by
  simp only [stepIndexAddr, intOf?]
  cases h : ty tab t with
  | none => cases u <;> simp [opt, arrAt, h]
  | some T =>
    cases T with
    | arr k v' =>
      cases u with
      | arr k' u' =>
        simp only [aim, arrAt, h]
        by_cases e1 : k' = k
        · by_cases e2 : u' = v'
          · subst e1 e2
            simp only [and_self, if_true, opt_ite, opt_some, true_and]
          · have : ¬ v' = u' := fun h => e2 h.symm
            simp [e2, this, opt]
        · have : ¬ k = k' := fun h => e1 h.symm
          simp [e1, this, opt]
      | _ => simp [aim, arrAt, opt]
    | _ => cases u <;> simp [opt, arrAt, h]
theorem ixa_apt {k : IntKind} {i : Int} {p : List Way} {F : Slot → Prop} : opt (stepIndexAddr tab t ⟨.apt n s p, c⟩ ⟨.val (.int k) i, c'⟩) F = opt (aim ⟨.apt n s p, c⟩) fun w => arrAt tab t i w fun _ _ => F (.apt n s (p ++ [.idx i.toNat])) := by
  simp only [stepIndexAddr, intOf?]
  cases ha : aim ⟨.apt n s p, c⟩ with
  | none =>
    cases h : ty tab t with
    | none => simp [opt]
    | some T => cases T <;> simp [opt]
  | some w =>
    obtain ⟨u, v⟩ := w
    simp only [opt_some]
    cases h : ty tab t with
    | none => cases u <;> simp [opt, arrAt, h]
    | some T =>
      cases T with
      | arr k v' =>
        cases u with
        | arr k' u' =>
          simp only [arrAt, h]
          by_cases e1 : k' = k
          · by_cases e2 : u' = v'
            · subst e1 e2
              simp only [and_self, if_true, opt_ite, opt_some, true_and]
            · have : ¬ v' = u' := fun h => e2 h.symm
              simp [e2, this, opt]
          · have : ¬ k = k' := fun h => e1 h.symm
            simp [e1, this, opt]
        | _ => simp [arrAt, opt]
      | _ => cases u <;> simp [opt, arrAt, h]

theorem fla_rpt {v : u.den} {f : Nat} {F : Slot → Prop} : opt (stepFieldAddr tab t ⟨.rpt u v, c⟩ f) F = (ty tab t = some u ∧ opt (get u v [.fld f]) fun w => F (.rpt w.1 w.2)) := by
  simp only [stepFieldAddr, aim, opt_ite]
  cases get u v [.fld f] <;> simp [opt]
theorem fla_apt {p : List Way} {f : Nat} {F : Slot → Prop} : opt (stepFieldAddr tab t ⟨.apt n s p, c⟩ f) F = opt (aim ⟨.apt n s p, c⟩) fun w => ty tab t = some w.1 ∧ opt (get w.1 w.2 [.fld f]) fun _ => F (.apt n s (p ++ [.fld f])) := by
  simp only [stepFieldAddr]
  cases aim ⟨.apt n s p, c⟩ with
  | none => simp [opt]
  | some w =>
    simp only [opt_some, opt_ite]
    cases get w.1 w.2 [.fld f] <;> simp [opt]

theorem bin_val {op : BinOp} {v : u.den} {z : u'.den} : opt (stepBin tab op t d ⟨.val u v, c⟩ ⟨.val u' z, c'⟩) K = (binTy tab t u = true ∧ opt (bin op ⟨u, v⟩ ⟨u', z⟩) fun r => opt (into d (.val r.1 r.2)) K) := by
  simp only [stepBin, opt_ite]
  cases bin op ⟨u, v⟩ ⟨u', z⟩ <;> simp [opt]
theorem un_val {op : UnOp} {v : u.den} : opt (stepUn op d ⟨.val u v, c⟩) K = opt (un op ⟨u, v⟩) fun r => opt (into d (.val r.1 r.2)) K := by
  simp only [stepUn]
  cases un op ⟨u, v⟩ <;> simp [opt]

theorem conv_int {k : IntKind} {i : Int} : opt (stepConvert tab t t2 d m ⟨.val (.int k) i, c⟩) K = onInt (ty tab t) fun _ => onInt (ty tab t2) fun k' => opt (into d (.val (.int k') (k'.wrap i))) K := by
  simp only [stepConvert]
  cases ty tab t with
  | none => simp [onInt, opt]
  | some T =>
    cases T with
    | int q =>
      cases ty tab t2 with
      | none => simp [onInt, opt]
      | some T2 => cases T2 <;> simp [onInt, opt]
    | _ => simp [onInt, opt]

/-! ### Ends -/
theorem finish_iff {rvs : List ResultVar} {args : List Arg} {out : Out} : Finish tab rvs args out st = (finRes tab st rvs out.res ∧ finIos st args 0 out.ios) := propext ⟨fun h => h.out, fun h => ⟨h⟩⟩
theorem finRes_nil {r : Res} : finRes tab st [] r = (r = .unit) := rfl
theorem finRes_one {rv : ResultVar} {r : Res} : finRes tab st [rv] r = finOne tab st rv r := rfl
theorem finRes_more {rv rv2 : ResultVar} {rs : List ResultVar} {ds : List Dv} : finRes tab st (rv :: rv2 :: rs) (.tup ds) = finAll tab st (rv :: rv2 :: rs) ds := rfl
theorem finAll_nil {ds : List Dv} : finAll tab st [] ds = (ds = []) := rfl
theorem finAll_cons {rv : ResultVar} {rs : List ResultVar} {w : Dv} {ds : List Dv} : finAll tab st (rv :: rs) (w :: ds) = (finOne tab st rv (.val w) ∧ finAll tab st rs ds) := rfl
theorem finOne_tmp {k : Nat} {r : Res} : finOne tab st (.tmp k) r = opt (look st (.tmp k)) fun l => finOK l r := by
  simp only [finOne]
  cases look st (.tmp k) <;> simp [opt]
theorem finOne_cell {k : Nat} {e : TypeId} {w : Dv} : finOne tab st (.cell k e) (.val w) = opt (look st (.tmp k)) fun l => opt (aim l) fun v => v = w ∧ ty tab e = some w.1 := by
  simp only [finOne]
  cases look st (.tmp k) with
  | none => simp [opt]
  | some l => cases h : aim l <;> simp [opt, h]
theorem finOK_val {l : Lk} {w : Dv} : finOK l (.val w) = opt (frz l (some w.1)) fun r => r.1 = w := by
  simp only [finOK, opt]
  refine propext ⟨fun ⟨u, h⟩ => ⟨_, h, rfl⟩, fun ⟨r, h, e⟩ => ⟨r.2, by rw [h, ← e]⟩⟩
theorem finOK_nil {xs : List u.den} : finOK ⟨.nil, c⟩ (.own u xs) = (xs = []) := by cases c <;> rfl
theorem finOK_own {xs : List u.den} {u2 : Ty} {ys : List u2.den} : finOK ⟨.asl n s none, .own n' u2 ys⟩ (.own u xs) = (n = n' ∧ castTo (.slice u2) (.slice u) ys = some xs) := rfl
theorem finOK_obj {x : u.den} {u2 : Ty} {y : u2.den} : finOK ⟨.apt n s [], .obj n' u2 y⟩ (.obj u x) = (n = n' ∧ s < ghost ∧ castTo u2 u y = some x) := rfl
theorem finIos_nil {k : Nat} {ds : List Dv} : finIos st [] k ds = (ds = []) := rfl
theorem finIos_val {k : Nat} {w : Dv} {r : List Arg} {ds : List Dv} : finIos st (.val w :: r) k ds = finIos st r (k + 1) ds := rfl
theorem finIos_ptr {k : Nat} {w : Dv} {r : List Arg} {ds : List Dv} : finIos st (.ptr w :: r) k ds = finIos st r (k + 1) ds := rfl
theorem finIos_obj {k : Nat} {w e : Dv} {r : List Arg} {ds : List Dv} : finIos st (.obj w :: r) k (e :: ds) = ((∃ n, st (ghost + k) = .obj n e.1 e.2) ∧ finIos st r (k + 1) ds) := rfl

theorem index_str {k : IntKind} {i : Int} {z : ByteArray} : opt (stepIndex tab t d ⟨.val .str z, c⟩ ⟨.val (.int k) i, c'⟩) K = ((ty tab t = some .str ∧ 0 ≤ i ∧ i < (z.size : Int)) ∧ opt (into d (.val (.int .u8) (byteAt z i.toNat))) K) := by
  simp only [stepIndex, intOf?, opt_ite]
theorem index_arr {k : IntKind} {i : Int} {l : Nat} {xs : List u.den} : opt (stepIndex tab t d ⟨.val (.arr l u) xs, c⟩ ⟨.val (.int k) i, c'⟩) K = ((ty tab t = some (.arr l u) ∧ 0 ≤ i ∧ i < (l : Int)) ∧ opt (into d (.val u (xs.getD i.toNat u.dflt))) K) := by
  simp only [stepIndex, intOf?, opt_ite]
theorem make_ok {k k' : IntKind} {i j : Int} {b : Nat} : opt (stepMake tab t (some b) m ⟨.val (.int k) i, c⟩ ⟨.val (.int k') j, c'⟩) K = onSlice (ty tab t) fun u => (0 ≤ i ∧ i ≤ j ∧ j * (u.mx : Int) ≤ 281474976710656) ∧ K [(b, .own m u (List.replicate i.toNat u.dflt))] := by
  simp only [stepMake, intOf?]
  cases ty tab t with
  | none => simp [opt, onSlice]
  | some T => cases T <;> simp only [opt_ite, opt_some, opt_none, onSlice]
theorem pick_val {b : Bool} {v w : u.den} {e1 e2 e3 : Slot} : opt (stepPick d ⟨.val .bool b, e1⟩ ⟨.val u v, e2⟩ ⟨.val u w, e3⟩) K = opt (into d (.val u (if b = true then v else w))) K := by
  simp only [stepPick, castTo_self]

/-! ### Calls -/
theorem arg_val {v : u.den} {w : Option Ty} : toArg ⟨.val u v, c⟩ w = some ⟨.val ⟨u, v⟩, none, none⟩ := rfl
theorem arg_nil : toArg ⟨.nil, c⟩ (some (.slice u)) = some ⟨.val ⟨.slice u, []⟩, none, none⟩ := rfl
theorem arg_row {xs : List u.den} {w : Option Ty} : toArg ⟨.asl n s none, .own n u xs⟩ w = some ⟨.val ⟨.slice u, xs⟩, some (s, .val (.slice u) xs), none⟩ := by simp [toArg]
theorem arg_part {xs : List u.den} {w : Option Ty} : toArg ⟨.asl n s (some (lo, len)), .own n u xs⟩ w = some ⟨.val ⟨.slice u, (xs.drop lo).take len⟩, some (s, .val (.slice u) xs), none⟩ := by simp [toArg]
theorem arg_obj {v : u.den} {w : Option Ty} : toArg ⟨.apt n s [], .obj n u v⟩ w = some ⟨.obj ⟨u, v⟩, none, some (s, n)⟩ := by simp [toArg]
theorem arg_rpt {v : u.den} {w : Option Ty} : toArg ⟨.rpt u v, c⟩ w = some ⟨.ptr ⟨u, v⟩, none, none⟩ := by cases c <;> rfl
theorem args_nil {ws : List (Option Ty)} : toArgs [] ws = some [] := rfl
theorem args_cons {x : Lk} {xs : List Lk} {w : Option Ty} {ws : List (Option Ty)} {a : Lent} {as : List Lent} (h : toArg x w = some a) (k : toArgs xs ws = some as) : toArgs (x :: xs) (w :: ws) = some (a :: as) := by
  simp [toArgs, h, k]

theorem call_fn {f : FuncId} {args : Array Operand} {ts : Array TypeId} {ls : List Lk} : opt (stepCall tab Γ { callee := .value (.func f), args := args, argTypes := ts } d m ls) K = opt (Γ f) fun con => opt (toArgs ls (ts.toList.map (ty tab))) fun as => opt (callT con d m as) K := by
  simp only [stepCall]
  cases Γ f with
  | none => simp [opt]
  | some con =>
    simp only [opt_some]
    cases toArgs ls (ts.toList.map (ty tab)) <;> simp [opt]

theorem callT_ok {con : Con} {as : List Lent} : opt (callT con d m as) K = ((nodup (iosOf as) && (lentsOf as).all (fun l => !(iosOf as).contains l.1) && dstFree d (iosOf as)) = true ∧ opt (con (as.map (·.arg))) fun out => out.res.isPanic = false ∧ opt (ioUps as out.ios) fun u => K ((if out.far then lentsOf as else []) ++ u ++ dstUps d (out.res.slot m))) := by
  simp only [callT, opt_ite]
  congr 1
  cases con (as.map (·.arg)) with
  | none => simp [opt]
  | some out =>
    simp only [opt_some]
    cases h : out.res.isPanic <;> simp only [h, if_true, Bool.false_eq_true, if_false, reduceCtorEq, true_and, false_and]
    · cases ioUps as out.ios <;> simp [opt]
    · simp [opt]
theorem np_unit : Res.isPanic .unit = false := rfl
theorem np_val {d : Dv} : Res.isPanic (.val d) = false := rfl
theorem np_own {t : Ty} {x : List t.den} : Res.isPanic (.own t x) = false := rfl
theorem np_obj {t : Ty} {x : t.den} : Res.isPanic (.obj t x) = false := rfl
theorem np_tup {l : List Dv} : Res.isPanic (.tup l) = false := rfl

theorem call_len {x : Operand} {l : Lk} : opt (stepCall tab Γ { callee := .builtin .len, args := #[x], argTypes := #[t] } d m [l]) K = opt (lenOf? tab t l) fun k => opt (into d (.val (.int .i64) (k : Int))) K := by
  simp only [stepCall]
  cases lenOf? tab t l <;> simp [opt]
theorem call_append {x y : Operand} {l k : Lk} : opt (stepCall tab Γ { callee := .builtin .append, args := #[x, y], argTypes := #[t, t2] } d m [l, k]) K = opt (stepAppend tab t t2 d m l k) K := by
  simp only [stepCall]

/-- What is appended to what. -/
def appK (xs : List u.den) (ys : List u.den) (F : List u.den → Prop) : Prop := (xs.length + ys.length) * u.mx ≤ 140737488355328 ∧ F (xs ++ ys)
def moreK (tab : Tab) (u : Ty) (t2 : TypeId) (y : Lk) (F : List u.den → Prop) : Prop := opt (more tab u t2 y) F
def priorK (u : Ty) (x : Lk) (F : List u.den → Option Nat → Prop) : Prop := opt (prior u x) fun p => F p.1 p.2

@[congr] theorem appK_congr {xs xs2 ys ys2 : List u.den} {F : List u.den → Prop} (h : xs = xs2) (hy : ys = ys2) : appK xs ys F = appK xs2 ys2 F := by rw [h, hy]
@[congr] theorem moreK_congr {y y2 : Lk} {F : List u.den → Prop} (h : y = y2) : moreK tab u t2 y F = moreK tab u t2 y2 F := by rw [h]
@[congr] theorem priorK_congr {x x2 : Lk} {F : List u.den → Option Nat → Prop} (h : x = x2) : priorK u x F = priorK u x2 F := by rw [h]
theorem append_ok {i : Nat} {x y : Lk} : opt (stepAppend tab t t2 (some i) m x y) K = onSlice (ty tab t) fun u => moreK tab u t2 y fun ys => priorK u x fun xs s => appK xs ys fun zs => K ((match s with | some s => [(s, .dead)] | none => []) ++ [(i, .own m u zs)]) := by
  simp only [stepAppend]
  cases ty tab t with
  | none => simp [opt, onSlice]
  | some T =>
    cases T with
    | slice u =>
      simp only [moreK, priorK, onSlice]
      cases more tab u t2 y with
      | none => simp [opt]
      | some ys =>
        cases prior u x with
        | none => simp [opt]
        | some p =>
          obtain ⟨xs, s⟩ := p
          simp only [opt_some, opt_ite, appK]
          cases s <;> rfl
    | _ => simp [opt, onSlice]
theorem more_val {ys : List u.den} {F : List u.den → Prop} : moreK tab u t2 ⟨.val (.slice u) ys, c⟩ F = onSlice (ty tab t2) (fun _ => F ys) := by
  simp only [moreK, more]
  cases ty tab t2 with
  | none => simp [opt, onSlice]
  | some T => cases T <;> simp [opt, slc, onSlice]
theorem more_nil {F : List u.den → Prop} : moreK tab u t2 ⟨.nil, c⟩ F = onSlice (ty tab t2) (fun _ => F []) := by
  simp only [moreK, more]
  cases ty tab t2 with
  | none => simp [opt, onSlice]
  | some T => cases T <;> simp [opt, slc, onSlice]
theorem more_row {ys : List u.den} {F : List u.den → Prop} : moreK tab u t2 ⟨.asl n s none, .own n u ys⟩ F = onSlice (ty tab t2) (fun _ => F ys) := by
  simp only [moreK, more]
  cases ty tab t2 with
  | none => simp [opt, onSlice]
  | some T => cases T <;> simp [opt, slc, onSlice]
theorem more_part {ys : List u.den} {F : List u.den → Prop} : moreK tab u t2 ⟨.asl n s (some (lo, len)), .own n u ys⟩ F = onSlice (ty tab t2) (fun _ => F ((ys.drop lo).take len)) := by
  simp only [moreK, more]
  cases ty tab t2 with
  | none => simp [opt, onSlice]
  | some T => cases T <;> simp [opt, slc, onSlice]
theorem more_str {z : ByteArray} {F : List Int → Prop} : moreK tab (.int .u8) t2 ⟨.val .str z, c⟩ F = (ty tab t2 = some .str ∧ F (bytesOf z)) := by
  simp only [moreK, more]
  cases ty tab t2 with
  | none => simp [opt]
  | some T => cases T <;> simp [opt, slc]
theorem prior_nil {F : List u.den → Option Nat → Prop} : priorK u ⟨.nil, c⟩ F = F [] none := by simp [priorK, prior, opt]
theorem prior_row {xs : List u.den} {F : List u.den → Option Nat → Prop} : priorK u ⟨.asl n s none, .own n u xs⟩ F = F xs (some s) := by simp [priorK, prior, opt]
theorem prior_part {xs : List u.den} {F : List u.den → Option Nat → Prop} : priorK u ⟨.asl n s (some (0, len)), .own n u xs⟩ F = F (xs.take len) (some s) := by simp [priorK, prior, opt]
end
end Go.Tm
