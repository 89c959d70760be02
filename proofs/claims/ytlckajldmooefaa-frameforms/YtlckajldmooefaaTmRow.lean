/- From what the machine's reader reads of an argument to what it stands for. -/
import Derived.Test.YtlckajldmooefaaTmSimp2
import Derived.ChangeReads
import Derived.ChangeShapes
import Derived.WideShapes
import Derived.DataReads
import Derived.OpenShut
import Derived.SizedLaws
import Derived.ChangeOld
import Derived.RowKit
import Derived.Below
import Derived.Carry
set_option linter.unusedVariables false
set_option linter.unusedSimpArgs false
set_option linter.unusedSectionVars false
namespace Go.Tm

/-- What a reading says of a value. -/
def okv : (t : Ty) → t.den → Prop
  | .int k, x => (Lit.int k x).wf = true
  | .bool, _ => True
  | .str, s => s.size ≤ maxLen
  | .unit, _ => True
  | .prod a b, x => okv a x.1 ∧ okv b x.2
  | .slice t, xs => xs.length ≤ maxLen ∧ ∀ x ∈ xs, okv t x
  | .arr n t, xs => xs.length = n ∧ ∀ x ∈ xs, okv t x

theorem mapM_at {α β : Type} {f : α → Option β} {l : List α} {r : List β} (h : l.mapM f = some r) {i : Nat} {x : α} (hx : l[i]? = some x) : ∃ y, r[i]? = some y ∧ f x = some y := by
  have h1 := mapM_some_get h i x hx
  have h2 := mapM_some_length h
  have hlt : i < l.length := (List.getElem?_eq_some_iff.1 hx).1
  have : i < r.length := by omega
  rw [List.getElem?_eq_getElem this] at h1
  exact ⟨r[i], List.getElem?_eq_getElem this, h1⟩

theorem cells_lie {w : World} {base : Nat} {a : Addr} {n : Nat} {cs : List Value} (h : w.cells? base a n = some cs) : cs.length = n ∧ lies w a cs := by
  unfold World.cells? at h
  split at h
  · refine ⟨by simpa using mapM_some_length h, fun j v hv => ?_⟩
    have hlt : j < cs.length := (List.getElem?_eq_some_iff.1 hv).1
    have hl : cs.length = n := by simpa using mapM_some_length h
    have := mapM_some_get h j j (by rw [List.getElem?_range (by omega)])
    rw [this, hv]
  · cases h

theorem lies_append {w : World} {a : Addr} {cs ds : List Value} (h : lies w a cs) (k : lies w (a.add cs.length) ds) : lies w a (cs ++ ds) := by
  intro j v hv
  rcases Nat.lt_or_ge j cs.length with hj | hj
  · exact h j v (by rwa [List.getElem?_append_left hj] at hv)
  · rw [List.getElem?_append_right hj] at hv
    have := k _ v hv
    rw [add_add] at this
    rwa [show cs.length + (j - cs.length) = j by omega] at this

theorem lies_nil (w : World) (a : Addr) : lies w a [] := by intro j v hv; simp at hv

theorem lies_lt {w : World} {a : Addr} {c : Value} {cs : List Value} (h : lies w a (c :: cs)) : a.block < w.heap.size := by
  have := h 0 c rfl
  rw [add_zero] at this
  unfold World.cell? at this
  split at this
  · rename_i hh
    exact (Array.getElem?_eq_some_iff.1 hh).1
  · cases this

section
variable {P : Program} {tab : Tab} (ok : TabOK P tab) {H : Type} {enc : TypeId × Value → H} {w : World} {base : Nat} {spare : Nat → Bool} {held : Bool}
include ok

theorem tab_cells {t : TypeId} {u : Ty} (h : ty tab t = some u) : P.cellsOf t = u.sz := by
  obtain ⟨i, h1, h2, _⟩ := tab_info' ok h
  simp [Program.cellsOf, h1, h2]

theorem open_rows {u : Ty} {e : TypeId} {fuel : Nat} (ih : ∀ {cs : List Value} {d : DataW H} {ps : List MemPlace}, DataW.trod enc P w base spare held fuel e cs = some (d, ps) → ∃ x, rep w (fun _ => True) u x cs ∧ okv u x)
    {all : List Value} : ∀ (n o : Nat) {xs : List (DataW H × List MemPlace)},
    ((List.range' o n).mapM fun i => DataW.trod enc P w base spare held fuel e ((all.drop (i * u.sz)).take u.sz)) = some xs → (o + n) * u.sz ≤ all.length →
    ∃ ys : List u.den, ys.length = n ∧ repList (rep w (fun _ => True) u) ys ((all.drop (o * u.sz)).take (n * u.sz)) ∧ ∀ y ∈ ys, okv u y
  | 0, o, xs, h, hl => ⟨[], rfl, by simp [repList], by simp⟩
  | n + 1, o, xs, h, hl => by
    rw [List.range'_succ, List.mapM_cons] at h
    cases h1 : DataW.trod enc P w base spare held fuel e ((all.drop (o * u.sz)).take u.sz) with
    | none => simp [h1] at h
    | some y =>
      cases h2 : (List.range' (o + 1) n).mapM fun i => DataW.trod enc P w base spare held fuel e ((all.drop (i * u.sz)).take u.sz) with
      | none => simp [h1, h2] at h
      | some r =>
        obtain ⟨d, ps⟩ := y
        obtain ⟨x, hx, hok⟩ := ih h1
        have hm : (o + (n + 1)) * u.sz = o * u.sz + u.sz + n * u.sz := by rw [Nat.add_mul, Nat.add_mul, Nat.one_mul]; omega
        have hm2 : (o + 1 + n) * u.sz = o * u.sz + u.sz + n * u.sz := by rw [Nat.add_mul, Nat.add_mul, Nat.one_mul]
        have hm3 : (o + 1) * u.sz = o * u.sz + u.sz := by rw [Nat.add_mul, Nat.one_mul]
        have hm4 : (n + 1) * u.sz = u.sz + n * u.sz := by rw [Nat.add_mul, Nat.one_mul, Nat.add_comm]
        obtain ⟨ys, e1, e2, e3⟩ := open_rows ih n (o + 1) h2 (by omega)
        refine ⟨x :: ys, by simp [e1], ⟨_, _, ?_, hx, e2⟩, fun y hy => ?_⟩
        · rw [hm3, hm4, ← List.drop_drop]
          rw [List.take_add, List.drop_drop]
        · rcases List.mem_cons.1 hy with rfl | hy
          · exact hok
          · exact e3 y hy

theorem open_elems {u : Ty} {e : TypeId} {fuel : Nat} (he : P.cellsOf e = u.sz) (ih : ∀ {cs : List Value} {d : DataW H} {ps : List MemPlace}, DataW.trod enc P w base spare held fuel e cs = some (d, ps) → ∃ x, rep w (fun _ => True) u x cs ∧ okv u x)
    {a : Addr} : ∀ (n o : Nat) {xs : List (DataW H × List MemPlace)},
    ((List.range' o n).mapM fun i => (w.cells? base (a.add (i * P.cellsOf e)) (P.cellsOf e)).bind (DataW.trod enc P w base spare held fuel e)) = some xs →
    ∃ (ys : List u.den) (cs : List Value), ys.length = n ∧ repList (rep w (fun _ => True) u) ys cs ∧ lies w (a.add (o * u.sz)) cs ∧ ∀ y ∈ ys, okv u y
  | 0, o, xs, h => ⟨[], [], rfl, by simp [repList], lies_nil _ _, by simp⟩
  | n + 1, o, xs, h => by
    rw [List.range'_succ, List.mapM_cons] at h
    cases h1 : (w.cells? base (a.add (o * P.cellsOf e)) (P.cellsOf e)).bind (DataW.trod enc P w base spare held fuel e) with
    | none => simp [h1] at h
    | some y =>
      cases h2 : (List.range' (o + 1) n).mapM fun i => (w.cells? base (a.add (i * P.cellsOf e)) (P.cellsOf e)).bind (DataW.trod enc P w base spare held fuel e) with
      | none => simp [h1, h2] at h
      | some r =>
        obtain ⟨d, ps⟩ := y
        simp only [Option.bind_eq_some_iff] at h1
        obtain ⟨cs, hc, ht⟩ := h1
        obtain ⟨x, hx, hok⟩ := ih ht
        obtain ⟨l1, l2⟩ := cells_lie hc
        obtain ⟨ys, ds, e1, e2, e3, e4⟩ := open_elems he ih n (o + 1) h2
        rw [he] at l1 l2
        refine ⟨x :: ys, cs ++ ds, by simp [e1], ⟨_, _, rfl, hx, e2⟩, ?_, fun y hy => ?_⟩
        · refine lies_append l2 ?_
          rw [add_add, l1, show o * u.sz + u.sz = (o + 1) * u.sz by rw [Nat.add_mul, Nat.one_mul]]
          exact e3
        · rcases List.mem_cons.1 hy with rfl | hy
          · exact hok
          · exact e4 y hy

theorem fields_len : ∀ (u : Ty) (fs : List Field) (off : Nat), fieldsOK tab fs u off = true → u = .unit ∨ ∃ a b, u = .prod a b
  | .unit, _, _, _ => .inl rfl
  | .prod a b, _, _, _ => .inr ⟨a, b, rfl⟩
  | .int _, fs, _, h => by cases fs <;> simp [fieldsOK] at h
  | .bool, fs, _, h => by cases fs <;> simp [fieldsOK] at h
  | .str, fs, _, h => by cases fs <;> simp [fieldsOK] at h
  | .slice _, fs, _, h => by cases fs <;> simp [fieldsOK] at h
  | .arr _ _, fs, _, h => by cases fs <;> simp [fieldsOK] at h

theorem open_both : ∀ u : Ty,
    (∀ (t : TypeId) (fuel : Nat) (cs : List Value) (d : DataW H) (ps : List MemPlace), ty tab t = some u → DataW.trod enc P w base spare held fuel t cs = some (d, ps) → ∃ x, rep w (fun _ => True) u x cs ∧ okv u x) ∧
    (∀ (fs : List Field) (off fuel : Nat) (all : List Value) (xs : List (DataW H × List MemPlace)), fieldsOK tab fs u off = true →
      (fs.mapM fun f => DataW.trod enc P w base spare held fuel f.type ((all.drop f.offset).take (P.cellsOf f.type))) = some xs → all.length = off + u.sz → ∃ x, rep w (fun _ => True) u x (all.drop off) ∧ okv u x) := by
  have str : ∀ u : Ty, (u = .unit ∨ ∃ a b, u = .prod a b) → (∀ (fs : List Field) (off fuel : Nat) (all : List Value) (xs : List (DataW H × List MemPlace)), fieldsOK tab fs u off = true →
      (fs.mapM fun f => DataW.trod enc P w base spare held fuel f.type ((all.drop f.offset).take (P.cellsOf f.type))) = some xs → all.length = off + u.sz → ∃ x, rep w (fun _ => True) u x (all.drop off) ∧ okv u x) →
      ∀ (t : TypeId) (fuel : Nat) (cs : List Value) (d : DataW H) (ps : List MemPlace), ty tab t = some u → DataW.trod enc P w base spare held fuel t cs = some (d, ps) → ∃ x, rep w (fun _ => True) u x cs ∧ okv u x := by
    intro u hu h2 t fuel cs d ps ht h
    obtain ⟨fs, hf, hfs⟩ := tab_struct ok ht hu
    cases fuel with
    | zero => cases h
    | succ n =>
      rw [DataW.trod_step] at h
      simp only [DataW.trodStep, hf] at h
      have hc := tab_cells ok ht
      split at h
      · rename_i hl
        simp only [Option.map_eq_some_iff] at h
        obtain ⟨xs, hx, _⟩ := h
        obtain ⟨x, k1, k2⟩ := h2 fs.toList 0 n cs xs hfs hx (by omega)
        exact ⟨x, by simpa using k1, k2⟩
      · cases h
  intro u
  induction u with
  | int k =>
    refine ⟨fun t fuel cs d ps ht h => ?_, fun fs off fuel all xs hf => by cases fs <;> simp [fieldsOK] at hf⟩
    obtain ⟨n, h1, _, h2⟩ := DataW.trod_int (tab_int ok ht) h
    exact ⟨n, h1, h2⟩
  | bool =>
    refine ⟨fun t fuel cs d ps ht h => ?_, fun fs off fuel all xs hf => by cases fs <;> simp [fieldsOK] at hf⟩
    obtain ⟨n, h1, _⟩ := DataW.trod_bool (tab_bool ok ht) h
    exact ⟨n, h1, trivial⟩
  | str =>
    refine ⟨fun t fuel cs d ps ht h => ?_, fun fs off fuel all xs hf => by cases fs <;> simp [fieldsOK] at hf⟩
    obtain ⟨n, h1, _, h2⟩ := DataW.trod_string (tab_str ok ht) h
    exact ⟨n, h1, h2⟩
  | unit =>
    have h2 : (∀ (fs : List Field) (off fuel : Nat) (all : List Value) (xs : List (DataW H × List MemPlace)), fieldsOK tab fs .unit off = true →
      (fs.mapM fun f => DataW.trod enc P w base spare held fuel f.type ((all.drop f.offset).take (P.cellsOf f.type))) = some xs → all.length = off + Ty.unit.sz → ∃ x, rep w (fun _ => True) .unit x (all.drop off) ∧ okv .unit x) := by
      intro fs off fuel all xs hf hx hl
      exact ⟨(), by simp only [rep]; exact List.drop_of_length_le (by simp [Ty.sz] at hl; omega), trivial⟩
    exact ⟨str _ (.inl rfl) h2, h2⟩
  | prod a b iha ihb =>
    have h2 : (∀ (fs : List Field) (off fuel : Nat) (all : List Value) (xs : List (DataW H × List MemPlace)), fieldsOK tab fs (.prod a b) off = true →
      (fs.mapM fun f => DataW.trod enc P w base spare held fuel f.type ((all.drop f.offset).take (P.cellsOf f.type))) = some xs → all.length = off + (Ty.prod a b).sz → ∃ x, rep w (fun _ => True) (.prod a b) x (all.drop off) ∧ okv (.prod a b) x) := by
      intro fs off fuel all xs hf hx hl
      cases fs with
      | nil => simp [fieldsOK] at hf
      | cons f fs =>
        simp only [fieldsOK, Bool.and_eq_true, beq_iff_eq, decide_eq_true_eq] at hf
        obtain ⟨⟨⟨⟨f1, _⟩, f2⟩, _⟩, f3⟩ := hf
        rw [List.mapM_cons] at hx
        cases e1 : DataW.trod enc P w base spare held fuel f.type ((all.drop f.offset).take (P.cellsOf f.type)) with
        | none => simp [e1] at hx
        | some y =>
          cases e2 : fs.mapM fun f => DataW.trod enc P w base spare held fuel f.type ((all.drop f.offset).take (P.cellsOf f.type)) with
          | none => simp [e1, e2] at hx
          | some r =>
            obtain ⟨d, ps⟩ := y
            obtain ⟨x, k1, k2⟩ := iha.1 _ _ _ _ _ f2 e1
            simp only [Ty.sz] at hl
            obtain ⟨z, k3, k4⟩ := ihb.2 fs (off + a.sz) fuel all r f3 e2 (by omega)
            refine ⟨(x, z), ⟨_, _, ?_, k1, k3⟩, k2, k4⟩
            rw [f1, tab_cells ok f2, ← List.drop_drop, List.take_append_drop]
    exact ⟨str _ (.inr ⟨a, b, rfl⟩) h2, h2⟩
  | slice u ih =>
    refine ⟨fun t fuel cs d ps ht h => ?_, fun fs off fuel all xs hf => by cases fs <;> simp [fieldsOK] at hf⟩
    obtain ⟨e, h1, h2, h3⟩ := tab_slice ok ht
    cases fuel with
    | zero => cases h
    | succ n =>
      rw [DataW.trod_step] at h
      simp only [DataW.trodStep, h1] at h
      split at h
      case h_7 => exact ⟨[], ⟨none, 0, rfl, Nat.le_refl _, Nat.zero_le _, .inl rfl⟩, Nat.zero_le _, by simp⟩
      case h_8 =>
        rename_i _ _ e' ad len cap heq
        simp only [Option.some.injEq, TypeDesc.slice.injEq] at heq
        subst heq
        try simp only at h
        split at h
        · rename_i hb
          simp only [Option.map_eq_some_iff, Option.bind_eq_some_iff] at h
          obtain ⟨elems, he, _⟩ := h
          rw [List.range_eq_range'] at he
          obtain ⟨ys, cs, e1, e2, e3, e4⟩ := open_elems ok (tab_cells ok h2) (fun h => ih.1 _ _ _ _ _ h2 h) len 0 he
          subst e1
          rw [Nat.zero_mul, add_zero] at e3
          refine ⟨ys, ⟨some ad, cap, rfl, hb.2.1, hb.2.2, ?_⟩, Nat.le_trans hb.2.1 hb.2.2, e4⟩
          cases ys with
          | nil => exact .inl rfl
          | cons y ys =>
            refine .inr ⟨ad, cs, rfl, trivial, ?_, e2, e3⟩
            obtain ⟨c1, c2, hcs, hr, _⟩ := e2
            have := rep_len _ hr
            cases c1 with
            | nil => simp at this; omega
            | cons c c1 => rw [hcs] at e3; exact lies_lt e3
        · cases h
      all_goals first | (cases h; done) | (simp_all; done)
  | arr m u ih =>
    refine ⟨fun t fuel cs d ps ht h => ?_, fun fs off fuel all xs hf => by cases fs <;> simp [fieldsOK] at hf⟩
    obtain ⟨e, h1, h2, h3⟩ := tab_arr ok ht
    cases fuel with
    | zero => cases h
    | succ n =>
      rw [DataW.trod_step] at h
      simp only [DataW.trodStep, h1] at h
      have hc : P.cellsOf t = m * u.sz := tab_cells ok ht
      have hce := tab_cells ok h2
      split at h
      · rename_i hl
        simp only [Option.map_eq_some_iff] at h
        obtain ⟨xs, hx, _⟩ := h
        rw [List.range_eq_range'] at hx
        simp only [hce] at hx
        obtain ⟨ys, e1, e2, e3⟩ := open_rows ok (all := cs) (fun h => ih.1 _ _ _ _ _ h2 h) m 0 hx (by rw [Nat.zero_add]; omega)
        refine ⟨ys, ⟨e1, ?_⟩, e1, e3⟩
        rw [Nat.zero_mul, List.drop_zero, List.take_of_length_le (by omega)] at e2
        exact e2
      · cases h

theorem open_val {t : TypeId} {u : Ty} (ht : ty tab t = some u) {v : Value} {d : DataW H} {ps : List MemPlace} {r : Reach} {base' : Nat} (hv : Value.okWide P w r base' t v) (h : DataW.Trod enc P w base spare held t v d ps) :
    ∃ x : u.den, vrep w (fun _ => True) u x v ∧ okv u x := by
  obtain ⟨fuel, h⟩ := h
  obtain ⟨x, h1, h2⟩ := (open_both ok u).1 t fuel _ d ps ht h
  refine ⟨x, ⟨_, h1, ?_⟩, h2⟩
  cases u with
  | int k => obtain ⟨n, rfl⟩ := WideShapes.okWide_int (tab_int ok ht) hv; simp [mkv, Ty.agg, Value.cells]
  | bool => obtain ⟨n, rfl⟩ := WideShapes.okWide_bool (tab_bool ok ht) hv; simp [mkv, Ty.agg, Value.cells]
  | str => obtain ⟨n, rfl⟩ := WideShapes.okWide_string (tab_str ok ht) hv; simp [mkv, Ty.agg, Value.cells]
  | slice u =>
    obtain ⟨e, k1, _⟩ := tab_slice ok ht
    obtain ⟨a, l, c, rfl⟩ := WideShapes.okWide_slice k1 hv
    simp [mkv, Ty.agg, Value.cells]
  | arr n u =>
    obtain ⟨e, k1, _⟩ := tab_arr ok ht
    simp only [Value.okWide, k1] at hv
    obtain ⟨cs, rfl, _⟩ := hv
    simp [mkv, Ty.agg, Value.cells]
  | unit =>
    obtain ⟨fs, k1, _⟩ := tab_struct ok ht (.inl rfl)
    obtain ⟨cs, rfl, _⟩ := WideShapes.okWide_struct k1 hv
    simp [mkv, Ty.agg, Value.cells]
  | prod a b =>
    obtain ⟨fs, k1, _⟩ := tab_struct ok ht (.inr ⟨a, b, rfl⟩)
    obtain ⟨cs, rfl, _⟩ := WideShapes.okWide_struct k1 hv
    simp [mkv, Ty.agg, Value.cells]

theorem open_args {r : Reach} {base' : Nat} : ∀ {ts : List TypeId} {us : List Ty} {vs : List Value} {ds : List (DataW H)} {ps : List MemPlace}, ts.map (ty tab) = us.map some →
    (∀ (j : Nat) t v, ts[j]? = some t → vs[j]? = some v → Value.okWide P w r base' t v) → DataW.TrodAll enc P w base spare held ts vs ds ps →
    ∃ l : List Dv, l.map (·.1) = us ∧ argsRep w (fun _ => True) (l.map .val) vs ∧ ∀ d ∈ l, okv d.1 d.2
  | [], us, vs, ds, ps, hu, hv, h => by
    cases us with
    | cons _ _ => simp at hu
    | nil =>
      cases vs <;> cases ds <;> simp [DataW.TrodAll] at h
      exact ⟨[], rfl, rfl, by simp⟩
  | t :: ts, us, vs, ds, ps, hu, hv, h => by
    cases us with
    | nil => simp at hu
    | cons u us =>
      simp only [List.map_cons, List.cons.injEq] at hu
      cases vs with
      | nil => cases ds <;> simp [DataW.TrodAll] at h
      | cons v vs =>
        cases ds with
        | nil => simp [DataW.TrodAll] at h
        | cons d ds =>
          obtain ⟨p, q, h1, h2, _⟩ := h
          obtain ⟨x, k1, k2⟩ := open_val ok hu.1 (hv 0 t v rfl rfl) h1
          obtain ⟨l, e1, e2, e3⟩ := open_args hu.2 (fun j t v h h' => hv (j + 1) t v h h') h2
          refine ⟨⟨u, x⟩ :: l, by simp [e1], ⟨v, vs, rfl, k1, e2⟩, fun d hd => ?_⟩
          rcases List.mem_cons.1 hd with rfl | hd
          · exact k2
          · exact e3 d hd

omit ok in
theorem ios_vals : ∀ (l : List Dv) (vs : List Value), ioBlks (l.map .val) vs = []
  | [], vs => by cases vs <;> rfl
  | d :: l, [] => rfl
  | d :: l, v :: vs => by simp [ioBlks, ioBlk, ios_vals l vs]

/-- A law's call. -/
theorem law_calls {f : FuncId} {fn : Func} {con : Con} (hcon : ConOK P f con) (hf : P.funcs[f]? = some fn) (hb : fn.body.isSome = true) (hn : (fn.name == "runtime.NumGoroutine") = false) {us : List Ty}
    (hlaw : ∀ l : List Dv, l.map (·.1) = us → (∀ d ∈ l, okv d.1 d.2) → con (l.map .val) = some ⟨.val ⟨.bool, true⟩, []⟩)
    {ts : List TypeId} (hts : ts.map (ty tab) = us.map some) {args : Array Value} {ds : List (DataW H)} {ps : List MemPlace} {r : Reach} {base' : Nat}
    (hv : ∀ (j : Nat) t v, ts[j]? = some t → args.toList[j]? = some v → Value.okWide P w r base' t v) (h : DataW.TrodAll enc P w base spare held ts args.toList ds ps) :
    Calls P f args w fun e w' => e = .returned (.bool true) ∧ RowKit.Below w.heap.size w w' := by
  obtain ⟨l, e1, e2, e3⟩ := open_args ok hts hv h
  have hr : Ready w (fun _ => True) (l.map .val) args.toList := ⟨e2, by rw [ios_vals]; exact List.nodup_nil, by rw [ios_vals]; simp⟩
  have he : (callFunc f args).run P w = .ok (.enter f args) w := enters hf hn hb _ _
  rcases hcon _ _ _ w _ (hlaw l e1 e3) hr with ⟨g, gs, w1, h1, h2⟩ | ⟨_, v, w', h1, h2⟩
  · rw [show args.toList.toArray = args by simp, he] at h1
    injection h1 with h1 h1'
    injection h1 with h1 h1''
    subst h1 h1' h1''
    refine h2.mono fun e w' ⟨v, hv, ha⟩ => ?_
    subst hv
    have hv := vrep_bool ha.res
    subst hv
    refine ⟨rfl, ⟨ha.kept.os, ha.kept.tape, ha.kept.output, ha.kept.size, fun k hk => ha.kept.block k hk (by rw [ios_vals]; simp)⟩⟩
  · rw [show args.toList.toArray = args by simp, he] at h1
    injection h1 with h1
    cases h1
end

theorem trodAll_below {H : Type} {enc : TypeId × Value → H} {P : Program} (hl : laidOutB P = true) {W W' : World} (hb : RowKit.Below W.heap.size W W') : ∀ {ts : List TypeId} {vs : List Value} {ds : List (DataW H)} {ps : List MemPlace},
    (ts.all fun t => P.readableRec t && decide (t < P.types.size)) = true → DataW.TrodAll enc P W 0 (fun _ => true) true ts vs ds ps → (∀ x ∈ ps, x.block < W.heap.size) →
    DataW.TrodAll enc P W' 0 (fun b => decide (b < W.heap.size)) true ts vs ds ps
  | [], [], [], _, _, h, _ => h
  | t :: ts, v :: vs, d :: ds, ps, ht, h, hlt => by
    obtain ⟨p, q, h1, h2, rfl⟩ := h
    simp only [List.all_cons, Bool.and_eq_true, decide_eq_true_eq] at ht
    exact ⟨p, q, RowKit.Below.trod hl ht.1.1 ht.1.2 h1 hb (fun x hx => hlt x (by simp [hx])), trodAll_below hl hb ht.2 h2 (fun x hx => hlt x (by simp [hx])), rfl⟩
  | [], _ :: _, _, _, _, h, _ => by simp [DataW.TrodAll] at h
  | [], [], _ :: _, _, _, h, _ => by simp [DataW.TrodAll] at h
  | _ :: _, [], _, _, _, h, _ => by simp [DataW.TrodAll] at h
  | _ :: _, _ :: _, [], _, _, h, _ => by simp [DataW.TrodAll] at h

theorem trodAll_len {H : Type} {enc : TypeId × Value → H} {P : Program} {w : World} {base : Nat} {spare : Nat → Bool} {held : Bool} : ∀ {ts : List TypeId} {vs : List Value} {ds : List (DataW H)} {ps : List MemPlace}, DataW.TrodAll enc P w base spare held ts vs ds ps → ds.length = ts.length
  | [], [], [], _, _ => rfl
  | _ :: _, _ :: _, _ :: _, _, h => by
    obtain ⟨p, q, _, h2, _⟩ := h
    simp [trodAll_len h2]
  | [], _ :: _, _, _, h => by simp [DataW.TrodAll] at h
  | [], [], _ :: _, _, h => by simp [DataW.TrodAll] at h
  | _ :: _, [], _, _, h => by simp [DataW.TrodAll] at h
  | _ :: _, _ :: _, [], _, h => by simp [DataW.TrodAll] at h

theorem law_lifted {C : Checked} {os : Os} {f : FuncId} {fn : Func} {con : Con} {tab : Tab} {us : List Ty} {s : ChangeSpec} {conds : List PathCond} {H : Type} {enc : TypeId × Value → H} {rt : TypeId}
    (ok : TabOK C.prog tab) (hcon : ConOK C.prog f con)
    (hlaw : ∀ l : List Dv, l.map (·.1) = us → (∀ d ∈ l, okv d.1 d.2) → con (l.map .val) = some ⟨.val ⟨.bool, true⟩, []⟩)
    (own : ownKnob C.prog.godebug = none) (laidOut : laidOutB C.prog = true) (started : os.Started) (noInit : C.prog.inits.idxOf? f = none) (hfn : C.prog.funcs[f]? = some fn)
    (hb : fn.body.isSome = true) (hn : (fn.name == "runtime.NumGoroutine") = false) (hts : fn.params.toList.map (ty tab) = us.map some) (hrt : fn.resultTypes = #[rt]) (hbool : C.prog.underlying rt = some .bool)
    (hread : (fn.params.toList.all fun t => C.prog.readableRec t && decide (t < C.prog.types.size)) = true)
    (hvars : s.vars = []) (hs : ∀ ds : List (DataW H), ds.length = us.length → s.fn H ds = { results := [.lit (.bool true)], args := ds })
    (witness : ∃ (w : World) (tape : Tape) (i : Input), w.os = os ∧ (w.forCall tape i).Shaped C.prog ∧ i.vars = [] ∧ Input.okWide C.prog (w.forCall tape i) .any w.heap.size f i ∧
      s.pre6 enc C.prog fn conds false (w.forCall tape i).memory i.args ∧ Assume.holds {} C.prog (lone (Frame.enter C.prog f i.args .normal) [] (w.forCall tape i))) :
    ReturnsInHanded {} C os f .any (s.pre6 enc C.prog fn conds false) (s.post enc C.prog fn false true false false) := by
  refine returnsInHanded_of_change_sized own started noInit hfn witness ?_
  intro W base args ds gs before hval hW _ _ _
  have hW' := hW
  obtain ⟨p, q, hA, hV, rfl, hfz, hnd⟩ := hW
  rw [hvars] at hV
  have hg : gs = [] ∧ q = [] := by
    cases gs with
    | nil => exact ⟨rfl, hV⟩
    | cons g gs => simp [DataW.TrodVars] at hV
  obtain ⟨rfl, rfl⟩ := hg
  have hlt : ∀ x ∈ p, x.block < W.heap.size := fun x hx => hW'.lt x (by simpa using hx)
  refine (law_calls ok hcon hfn hb hn hlaw hts (fun j t v h1 h2 => hval j t v (by simpa using h1) (by simpa using h2)) hA).mono fun e W' ⟨he, bel⟩ => ?_
  subst he
  have hlen : ds.length = us.length := by
    rw [trodAll_len hA, ← List.length_map (as := fn.params.toList) (f := ty tab), hts, List.length_map]
  refine ⟨_, rfl, ds, [], p ++ [], [], p, [], hW', ?_, ?_, ?_, bel.frame _, fun h => by cases h⟩
  · rw [List.append_nil, hs ds hlen, hrt]
    exact ChangeShapes.trodAll_mk1 (RowKit.shut_bool hbool _)
  · rw [List.append_nil, hs ds hlen]
    exact trodAll_below laidOut bel hread hA hlt
  · rw [List.append_nil, hs ds hlen, hvars]
    rfl
end Go.Tm
