/- Operations on values: the machine's answers are the plain functions'. -/
import Derived.Test.YtlckajldmooefaaTmSnd
import Derived.Laws.StructEq
set_option linter.unusedVariables false
set_option linter.unusedSimpArgs false
namespace Go.Tm

section
variable {w : World} {R : Nat → Prop} {v : Value}
theorem vrep_int {k : IntKind} {x : Int} (h : vrep w R (.int k) x v) : v = .int k x := by obtain ⟨cs, rfl, rfl⟩ := h; rfl
theorem vrep_bool {x : Bool} (h : vrep w R .bool x v) : v = .bool x := by obtain ⟨cs, rfl, rfl⟩ := h; rfl
theorem vrep_str {x : ByteArray} (h : vrep w R .str x v) : v = .string x := by obtain ⟨cs, rfl, rfl⟩ := h; rfl
theorem mk_int (w : World) (R : Nat → Prop) (k : IntKind) (x : Int) : vrep w R (.int k) x (.int k x) := ⟨_, rfl, rfl⟩
theorem mk_bool (w : World) (R : Nat → Prop) (x : Bool) : vrep w R .bool x (.bool x) := ⟨_, rfl, rfl⟩
theorem mk_str (w : World) (R : Nat → Prop) (x : ByteArray) : vrep w R .str x (.string x) := ⟨_, rfl, rfl⟩
end

def Ty.deep : Ty → Nat
  | .prod a b => max (a.deep + 1) b.deep
  | _ => 0

section
variable {P : Program} {tab : Tab} (ok : TabOK P tab)
include ok

theorem tm_part {t : TypeId} {u : Ty} (h : ty tab t = some u) {w : World} {R : Nat → Prop} {x : u.den} {all cs : List Value} {off : Nat} (hc : (all.drop off).take u.sz = cs) (hr : rep w R u x cs) :
    (part t all.toArray off).run P w = .ok (mkv u cs) w := by
  unfold part
  rw [Sem.run_bind, tm_isAgg ok h]
  simp only [Result.andThen_ok]
  cases ha : u.agg with
  | true =>
    simp only [if_true, Sem.run_bind, tm_sizeOf ok h, Result.andThen_ok, Sem.run_pure]
    simp [mkv, ha, ← hc, List.extract_eq_take_drop]
  | false =>
    have h1 := agg_one ha
    have hl := rep_len _ hr
    rw [h1] at hl hc
    obtain ⟨c, rfl⟩ := List.length_eq_one_iff.1 hl
    have : all[off]? = some c := by
      have := congrArg (fun l : List Value => l[0]?) hc
      simpa using this
    simp [this, mkv, ha]

theorem eq_both (w : World) (R : Nat → Prop) : ∀ u : Ty, flat u = true →
    (∀ (t : TypeId) (d : Nat) (x y : u.den) (cs ds : List Value), ty tab t = some u → u.deep < d → rep w R u x cs → rep w R u y ds → (Op.equalIn d t (mkv u cs) (mkv u ds)).run P w = .ok (same u x y) w) ∧
    (∀ (fs : List Field) (d : Nat) (x y : u.den) (off : Nat) (xs ys cs ds : List Value), fieldsOK tab fs u off = true → u.deep ≤ d → rep w R u x cs → rep w R u y ds → xs.drop off = cs → ys.drop off = ds →
      (Op.eqFields d xs.toArray ys.toArray fs).run P w = .ok (same u x y) w) := by
  intro u
  induction u with
  | int k =>
    intro _
    refine ⟨fun t d x y cs ds h hd hx hy => ?_, fun fs d x y off xs ys cs ds hf => ?_⟩
    · simp only [rep] at hx hy
      subst hx hy
      obtain ⟨d, rfl⟩ : ∃ n, d = n + 1 := ⟨d - 1, by omega⟩
      exact run_equalIn_int w d t k k x y (tab_int ok h)
    · cases fs <;> simp [fieldsOK] at hf
  | bool =>
    intro _
    refine ⟨fun t d x y cs ds h hd hx hy => ?_, fun fs d x y off xs ys cs ds hf => ?_⟩
    · simp only [rep] at hx hy
      subst hx hy
      obtain ⟨d, rfl⟩ : ∃ n, d = n + 1 := ⟨d - 1, by omega⟩
      exact run_equalIn_bool' w d t x y (tab_bool ok h)
    · cases fs <;> simp [fieldsOK] at hf
  | str =>
    intro _
    refine ⟨fun t d x y cs ds h hd hx hy => ?_, fun fs d x y off xs ys cs ds hf => ?_⟩
    · simp only [rep] at hx hy
      subst hx hy
      obtain ⟨d, rfl⟩ : ∃ n, d = n + 1 := ⟨d - 1, by omega⟩
      exact run_equalIn_string w d t x y (tab_str ok h)
    · cases fs <;> simp [fieldsOK] at hf
  | unit =>
    intro _
    have key : ∀ (fs : List Field) (d : Nat) (off : Nat) (xs ys : List Value), fieldsOK tab fs .unit off = true → (Op.eqFields d xs.toArray ys.toArray fs).run P w = .ok true w := by
      intro fs d off xs ys hf
      cases fs with
      | nil => simp [Op.eqFields]
      | cons f fs => simp [fieldsOK] at hf
    refine ⟨fun t d x y cs ds h hd hx hy => ?_, fun fs d x y off xs ys cs ds hf _ _ _ _ _ => key _ _ _ _ _ hf⟩
    obtain ⟨d, rfl⟩ : ∃ n, d = n + 1 := ⟨d - 1, by omega⟩
    obtain ⟨fs, h1, h2⟩ := tab_struct ok h (.inl rfl)
    have hfs : P.fieldsOf t = fs := by simp [Program.fieldsOf, h1]
    show (Op.equalIn (d + 1) t (.agg cs.toArray) (.agg ds.toArray)).run P w = _
    rw [run_equalIn_struct w d t _ _ (by rw [hfs]; exact h1) (tab_under ok h).2.2, hfs]
    exact key _ _ _ _ _ h2
  | prod a b iha ihb =>
    intro hfl
    simp only [flat, Bool.and_eq_true] at hfl
    have key : ∀ (fs : List Field) (d : Nat) (x y : (Ty.prod a b).den) (off : Nat) (xs ys cs ds : List Value), fieldsOK tab fs (.prod a b) off = true → (Ty.prod a b).deep ≤ d → rep w R (.prod a b) x cs → rep w R (.prod a b) y ds →
        xs.drop off = cs → ys.drop off = ds → (Op.eqFields d xs.toArray ys.toArray fs).run P w = .ok (same (.prod a b) x y) w := by
      intro fs d x y off xs ys cs ds hf hd hx hy hcx hcy
      cases fs with
      | nil => simp [fieldsOK] at hf
      | cons f fs =>
        simp only [fieldsOK, Bool.and_eq_true, beq_iff_eq, bne_iff_ne, decide_eq_true_eq] at hf
        obtain ⟨⟨⟨⟨ho, hn⟩, ht⟩, hz⟩, hr⟩ := hf
        obtain ⟨c1, c2, e1, x1, x2⟩ := hx
        obtain ⟨d1, d2, e2, y1, y2⟩ := hy
        have l1 := rep_len _ x1
        have l2 := rep_len _ y1
        have p1 := tm_part ok ht (all := xs) (off := off) (cs := c1) (by rw [hcx, e1, ← l1, List.take_left']; rfl) x1
        have p2 := tm_part ok ht (all := ys) (off := off) (cs := d1) (by rw [hcy, e2, ← l2, List.take_left']; rfl) y1
        simp only [Ty.deep] at hd
        have q := (iha hfl.1).1 f.type d x.1 y.1 c1 d1 ht (by omega) x1 y1
        have q2 := (ihb hfl.2).2 fs d x.2 y.2 (off + a.sz) xs ys c2 d2 hr (by omega) x2 y2
          (by rw [← List.drop_drop, hcx, e1, ← l1, List.drop_left']; rfl) (by rw [← List.drop_drop, hcy, e2, ← l2, List.drop_left']; rfl)
        rw [Op.eqFields]
        rw [if_pos hn]
        simp only [Sem.run_bind, ho, p1, p2, q, Result.andThen_ok, same]
        cases same a x.1 y.1 with
        | false => simp
        | true => simpa using q2
    refine ⟨fun t d x y cs ds h hd hx hy => ?_, key⟩
    obtain ⟨d, rfl⟩ : ∃ n, d = n + 1 := ⟨d - 1, by omega⟩
    obtain ⟨fs, h1, h2⟩ := tab_struct ok h (.inr ⟨a, b, rfl⟩)
    have hfs : P.fieldsOf t = fs := by simp [Program.fieldsOf, h1]
    show (Op.equalIn (d + 1) t (.agg cs.toArray) (.agg ds.toArray)).run P w = _
    rw [run_equalIn_struct w d t _ _ (by rw [hfs]; exact h1) (tab_under ok h).2.2, hfs]
    exact key _ _ _ _ 0 _ _ _ _ h2 (by omega) hx hy rfl rfl
  | slice t _ => intro h; simp [flat] at h
  | arr n t _ => intro h; simp [flat] at h

theorem bin_ok {w : World} {R : Nat → Prop} {op : BinOp} {xt : TypeId} {X Y : Operand} {x y d : Dv} {v1 v2 : Value} (hx : vrep w R x.1 x.2 v1) (hy : vrep w R y.1 y.2 v2) (h : bin op x y = some d)
    (hty : ∀ a b, x.1 = .prod a b → ty tab xt = some x.1 ∧ x.1.deep < 10000) (hbool : x.1 = .bool → ty tab xt = some .bool) :
    ∃ v, ((do eqGuard op xt X Y v1 v2; binOp op xt v1 v2) : Sem Value).run P w = .ok v w ∧ vrep w R d.1 d.2 v := by
  obtain ⟨xt', xv⟩ := x
  obtain ⟨yt', yv⟩ := y
  unfold bin at h
  split at h
  · rename_i k a k' b e1 e2
    cases e1
    cases e2
    have e1 := vrep_int hx
    have e2 := vrep_int hy
    subst e1 e2
    have hg : (eqGuard op xt X Y (.int k a) (.int k' b)).run P w = .ok () w := by cases op <;> simp [eqGuard]
    simp only [Sem.run_bind, hg, Result.andThen_ok]
    split at h
    · unfold shiftInt at h
      split at h
      · cases h
      · rename_i hy0
        injection h with h
        subst h
        exact ⟨_, by simp [binOp, Op.shift, hy0], mk_int _ _ _ _⟩
    · unfold shiftInt at h
      split at h
      · cases h
      · rename_i hy0
        injection h with h
        subst h
        exact ⟨_, by simp [binOp, Op.shift, hy0], mk_int _ _ _ _⟩
    · split at h
      · rename_i hk
        subst hk
        cases op <;> simp only [binInt] at h <;> first
          | (cases h; done)
          | (contradiction)
          | (injection h with h; subst h; exact ⟨_, by simp [binOp, Op.intArith, Op.intCmp, Op.intBits, bits], mk_int _ _ _ _⟩)
          | (injection h with h; subst h; refine ⟨.bool _, ?_, mk_bool _ _ _⟩; simp [binOp, Op.intCmp]; done)
          | (injection h with h; subst h; refine ⟨.bool _, ?_, mk_bool _ _ _⟩; rfl)
          | (split at h <;> first | (cases h; done) | (rename_i h0; injection h with h; subst h; exact ⟨_, by simp [binOp, Op.intDiv, h0], mk_int _ _ _ _⟩))
      · cases h
  · rename_i a b e1 e2
    cases e1
    cases e2
    have e1 := vrep_str hx
    have e2 := vrep_str hy
    subst e1 e2
    have hg : (eqGuard op xt X Y (.string a) (.string b)).run P w = .ok () w := by cases op <;> simp [eqGuard]
    simp only [Sem.run_bind, hg, Result.andThen_ok]
    cases op <;> simp only [binStr] at h <;> first
      | (cases h; done)
      | (injection h with h; subst h; refine ⟨.bool _, ?_, mk_bool _ _ _⟩; rfl)
      | (split at h <;> first | (cases h; done) | (rename_i h0; injection h with h; subst h; refine ⟨.string _, ?_, mk_str _ _ _⟩; simp only [binOp, Op.stringOp]; rw [if_neg h0]; rfl))
  · rename_i a b e1 e2
    cases e1
    cases e2
    have e1 := vrep_bool hx
    have e2 := vrep_bool hy
    subst e1 e2
    have hg : (eqGuard op xt X Y (.bool a) (.bool b)).run P w = .ok () w := by cases op <;> simp [eqGuard]
    simp only [Sem.run_bind, hg, Result.andThen_ok]
    have hb := hbool rfl
    split at h
    · injection h with h
      subst h
      refine ⟨.bool _, ?_, mk_bool _ _ _⟩
      simp [binOp, Op.equal, Op.maxDepth, run_equalIn_bool' w 9999 xt a b (tab_bool ok hb)]
    · injection h with h
      subst h
      refine ⟨.bool _, ?_, mk_bool _ _ _⟩
      simp [binOp, Op.equal, Op.maxDepth, run_equalIn_bool' w 9999 xt a b (tab_bool ok hb)]
    · cases h
  · rename_i a b v u z e1 e2
    cases e1
    cases e2
    split at h
    · rename_i z' hz
      unfold castTo at hz
      split at hz
      · rename_i hu
        cases hu
        simp only [Option.some.injEq] at hz
        subst hz
        obtain ⟨ht, hd⟩ := hty _ _ rfl
        obtain ⟨cs, hx, rfl⟩ := hx
        obtain ⟨ds, hy, rfl⟩ := hy
        have hg : (eqGuard op xt X Y (mkv (.prod a b) cs) (mkv (.prod a b) ds)).run P w = .ok () w := run_eqGuard_agg w op xt X Y _ _ (tab_under ok ht).2.1
        simp only [Sem.run_bind, hg, Result.andThen_ok]
        unfold binAgg at h
        split at h
        · split at h
          · rename_i hf
            injection h with h
            subst h
            have := (eq_both ok w R _ hf).1 xt 10000 _ _ _ _ ht hd hx hy
            refine ⟨.bool _, ?_, mk_bool _ _ _⟩
            show (binOp .eql xt (.agg cs.toArray) (.agg ds.toArray)).run P w = _
            rw [run_eql_struct]
            simp only [mkv, Ty.agg, if_true] at this
            rw [this]
            rfl
          · cases h
        · split at h
          · rename_i hf
            injection h with h
            subst h
            have := (eq_both ok w R _ hf).1 xt 10000 _ _ _ _ ht hd hx hy
            refine ⟨.bool _, ?_, mk_bool _ _ _⟩
            show (binOp .neq xt (.agg cs.toArray) (.agg ds.toArray)).run P w = _
            rw [run_neq_struct]
            simp only [mkv, Ty.agg, if_true] at this
            rw [this]
            rfl
          · cases h
        · cases h
      · cases hz
    · cases h
  · cases h
end

end Go.Tm
