/- Rules by which simp steps through a body. -/
import Derived.Test.YtlckajldmooefaaTmBody
set_option linter.unusedVariables false
set_option linter.unusedSimpArgs false
namespace Go.Tm

section
variable {tab : Tab} {Γ : Cons} {α β : Type} {K : α → Prop}

@[congr] theorem opt_congr {x x' : Option α} (h : x = x') : opt x K = opt x' K := by rw [h]
theorem opt_some {a : α} : opt (some a) K = K a := by simp [opt]
theorem opt_none : opt (none : Option α) K = False := by simp [opt]
theorem opt_ite {c : Prop} [Decidable c] {x : Option α} : opt (if c then x else none) K = (c ∧ opt x K) := by
  by_cases h : c <;> simp [h, opt]
theorem opt_map {f : β → α} {x : Option β} : opt (Option.map f x) K = opt x fun b => K (f b) := by
  cases x <;> simp [opt]
theorem opt_mono {x : Option α} {K K' : α → Prop} (h : opt x K) (hk : ∀ a, K a → K' a) : opt x K' := by
  obtain ⟨a, h1, h2⟩ := h
  exact ⟨a, h1, hk a h2⟩

@[congr] theorem br_congr {b b' : Bool} {X X' Y Y' : Prop} (h : b = b') (hx : b' = true → X = X') (hy : b' = false → Y = Y') : br b X Y = br b' X' Y' := by
  subst h
  cases b with
  | true => simp [br, hx rfl]
  | false => simp [br, hy rfl]
theorem br_true {X Y : Prop} : br true X Y = X := by simp [br]
theorem br_false {X Y : Prop} : br false X Y = Y := by simp [br]
theorem br_intro {b : Bool} {X Y : Prop} (h : b = true → X) (k : b = false → Y) : br b X Y := ⟨h, k⟩
theorem br_dec {c : Prop} [Decidable c] {X Y : Prop} (h : c → X) (k : ¬ c → Y) : br (decide c) X Y := ⟨fun e => h (by simpa using e), fun e => k (by simpa using e)⟩

/-! ### By type -/
def onSlice (o : Option Ty) (F : Ty → Prop) : Prop := match o with | some (.slice u) => F u | _ => False
@[congr] theorem onSlice_congr {o o' : Option Ty} {F : Ty → Prop} (h : o = o') : onSlice o F = onSlice o' F := by rw [h]
theorem onSlice_ok {u : Ty} {F : Ty → Prop} : onSlice (some (.slice u)) F = F u := rfl
def onInt (o : Option Ty) (F : IntKind → Prop) : Prop := match o with | some (.int k) => F k | _ => False
@[congr] theorem onInt_congr {o o' : Option Ty} {F : IntKind → Prop} (h : o = o') : onInt o F = onInt o' F := by rw [h]
theorem onInt_ok {k : IntKind} {F : IntKind → Prop} : onInt (some (.int k)) F = F k := rfl
def onLen (o : Option Ty) (X : Prop) (Y : Nat → Prop) : Prop := match o with | some (.slice _) => X | some (.arr n _) => Y n | _ => False
@[congr] theorem onLen_congr {o o' : Option Ty} {X : Prop} {Y : Nat → Prop} (h : o = o') : onLen o X Y = onLen o' X Y := by rw [h]
theorem onLen_slice {u : Ty} {X : Prop} {Y : Nat → Prop} : onLen (some (.slice u)) X Y = X := rfl
theorem onLen_arr {n : Nat} {u : Ty} {X : Prop} {Y : Nat → Prop} : onLen (some (.arr n u)) X Y = Y n := rfl
def onConv (o o2 : Option Ty) (X Y : Prop) : Prop := match o, o2 with
  | some (.slice (.int .u8)), some .str => X
  | some (.slice (.int .u8)), some (.slice (.int .u8)) => Y
  | _, _ => False
@[congr] theorem onConv_congr {a a' b b' : Option Ty} {X Y : Prop} (h : a = a') (k : b = b') : onConv a b X Y = onConv a' b' X Y := by rw [h, k]
theorem onConv_str {X Y : Prop} : onConv (some (.slice (.int .u8))) (some .str) X Y = X := rfl
theorem onConv_row {X Y : Prop} : onConv (some (.slice (.int .u8))) (some (.slice (.int .u8))) X Y = Y := rfl
def onStr (o o2 : Option Ty) (X Y : Prop) : Prop := match o, o2 with
  | some .str, some .str => X
  | some .str, some (.slice (.int .u8)) => Y
  | _, _ => False
@[congr] theorem onStr_congr {a a' b b' : Option Ty} {X Y : Prop} (h : a = a') (k : b = b') : onStr a b X Y = onStr a' b' X Y := by rw [h, k]
theorem onStr_str {X Y : Prop} : onStr (some .str) (some .str) X Y = X := rfl
theorem onStr_row {X Y : Prop} : onStr (some .str) (some (.slice (.int .u8))) X Y = Y := rfl

/-! ### Code -/
def seqK (tab : Tab) (Γ : Cons) (y : Code) (Q : Exit → St → Prop) (e : Exit) (st : St) : Prop :=
  match e with
  | .normal => Ex tab Γ y Q st
  | e => Q e st
def blockK (id : Nat) (Q : Exit → St → Prop) (e : Exit) (st : St) : Prop :=
  match e with
  | .exit j => if j = id then Q .normal st else Q (.exit j) st
  | e => Q e st
def loopK (Q : Exit → St → Prop) (X : St → Prop) (e : Exit) (st : St) : Prop :=
  match e with
  | .normal => X st
  | e => Q e st

theorem seqK_normal {y : Code} {Q : Exit → St → Prop} {st : St} : seqK tab Γ y Q .normal st = Ex tab Γ y Q st := rfl
theorem seqK_exit {y : Code} {Q : Exit → St → Prop} {st : St} {j : Nat} : seqK tab Γ y Q (.exit j) st = Q (.exit j) st := rfl
theorem seqK_panic {y : Code} {Q : Exit → St → Prop} {st : St} {ch : List PanicEntry} : seqK tab Γ y Q (.panic ch) st = Q (.panic ch) st := rfl
theorem seqK_ret {y : Code} {Q : Exit → St → Prop} {st : St} : seqK tab Γ y Q .ret st = Q .ret st := rfl
theorem blockK_normal {id : Nat} {Q : Exit → St → Prop} {st : St} : blockK id Q .normal st = Q .normal st := rfl
theorem blockK_exit {id j : Nat} {Q : Exit → St → Prop} {st : St} : blockK id Q (.exit j) st = if j = id then Q .normal st else Q (.exit j) st := rfl
theorem blockK_panic {id : Nat} {Q : Exit → St → Prop} {st : St} {ch : List PanicEntry} : blockK id Q (.panic ch) st = Q (.panic ch) st := rfl
theorem blockK_ret {id : Nat} {Q : Exit → St → Prop} {st : St} : blockK id Q .ret st = Q .ret st := rfl
theorem loopK_normal {X : St → Prop} {Q : Exit → St → Prop} {st : St} : loopK Q X .normal st = X st := rfl
theorem loopK_exit {X : St → Prop} {j : Nat} {Q : Exit → St → Prop} {st : St} : loopK Q X (.exit j) st = Q (.exit j) st := rfl
theorem loopK_panic {X : St → Prop} {Q : Exit → St → Prop} {st : St} {ch : List PanicEntry} : loopK Q X (.panic ch) st = Q (.panic ch) st := rfl
theorem loopK_ret {X : St → Prop} {Q : Exit → St → Prop} {st : St} : loopK Q X .ret st = Q .ret st := rfl
theorem endsF_normal {rvs : List ResultVar} {args : List Arg} {out : Out} {st : St} : EndsF tab rvs args out .normal st = Finish tab rvs args out st := rfl
theorem endsF_ret {rvs : List ResultVar} {args : List Arg} {out : Out} {st : St} : EndsF tab rvs args out .ret st = Finish tab rvs args out st := rfl
theorem endsF_panic {rvs : List ResultVar} {args : List Arg} {out : Out} {ch : List PanicEntry} {st : St} : EndsF tab rvs args out (.panic ch) st = Panics args out ch st := rfl

@[congr] theorem ex_congr {c : Code} {Q : Exit → St → Prop} {st st' : St} (h : st = st') : Ex tab Γ c Q st = Ex tab Γ c Q st' := by rw [h]
@[congr] theorem seqK_congr {y : Code} {Q : Exit → St → Prop} {e : Exit} {st st' : St} (h : st = st') : seqK tab Γ y Q e st = seqK tab Γ y Q e st' := by rw [h]
@[congr] theorem blockK_congr {id : Nat} {Q : Exit → St → Prop} {e : Exit} {st st' : St} (h : st = st') : blockK id Q e st = blockK id Q e st' := by rw [h]
@[congr] theorem loopK_congr {X : St → Prop} {Q : Exit → St → Prop} {e : Exit} {st st' : St} (h : st = st') : loopK Q X e st = loopK Q X e st' := by rw [h]
@[congr] theorem ends_congr {rvs : List ResultVar} {args : List Arg} {out : Out} {e : Exit} {st st' : St} (h : st = st') : EndsF tab rvs args out e st = EndsF tab rvs args out e st' := by rw [h]

theorem ex_skip {Q : Exit → St → Prop} {st : St} : Ex tab Γ .skip Q st = Q .normal st := rfl
theorem ex_seq {x y : Code} {Q : Exit → St → Prop} {st : St} : Ex tab Γ (.seq x y) Q st = Ex tab Γ x (seqK tab Γ y Q) st := by
  have e : seqK tab Γ y Q = (fun e st' => match e with | .normal => Ex tab Γ y Q st' | e => Q e st') := rfl
  rw [e]
  rfl
theorem ex_cond {c : Operand} {x y : Code} {Q : Exit → St → Prop} {st : St} : Ex tab Γ (.cond c x y) Q st = opt (condOf st c) fun b => br b (Ex tab Γ x Q st) (Ex tab Γ y Q st) := by
  simp only [Ex, opt, br]
  cases condOf st c <;> simp
theorem ex_block {id : Nat} {x : Code} {Q : Exit → St → Prop} {st : St} : Ex tab Γ (.block id x) Q st = Ex tab Γ x (blockK id Q) st := by
  have e : blockK id Q = (fun e st' => match e with | .exit j => if j = id then Q .normal st' else Q (.exit j) st' | e => Q e st') := rfl
  rw [e]
  rfl
theorem ex_exit {id : Nat} {Q : Exit → St → Prop} {st : St} : Ex tab Γ (.exit id) Q st = Q (.exit id) st := rfl
theorem ex_label {l : Nat} {Q : Exit → St → Prop} {st : St} : Ex tab Γ (.label l) Q st = Q .normal st := rfl
theorem ex_ret {Q : Exit → St → Prop} {st : St} : Ex tab Γ .ret Q st = Q .ret st := rfl

theorem nilK_mono {t : TypeId} {l : Lk} {F F' : Bool → Prop} (h : nilK tab t l F) (hk : ∀ b, F b → F' b) : nilK tab t l F' := by
  unfold nilK at h ⊢
  split
  · split
    · simp_all
    · split
      · simp_all
      · simp_all
  · simp_all

theorem panK_mono {s : Slot} {X X' : List PanicEntry → Ups → Prop} (h : panK s X) (hx : ∀ ch u, X ch u → X' ch u) : panK s X' := by
  cases s <;> simp only [panK] at h ⊢ <;> first | exact h.elim | exact ⟨h.1, hx _ _ h.2⟩

theorem exOpF_mono {o : Oper} {m : Nat} {st : St} {K K' : Ups → Prop} {X X' : List PanicEntry → Ups → Prop} (h : exOpF tab Γ o m st K X) (hk : ∀ u, K u → K' u) (hx : ∀ ch u, X ch u → X' ch u) : exOpF tab Γ o m st K' X' := by
  unfold exOpF at h ⊢
  split at h
  · exact opt_mono h fun ls h => opt_mono h fun u h => hk _ h
  · exact opt_mono h fun ls h => opt_mono h fun u h hl => hk _ (h hl)
  · exact opt_mono h fun l h => nilK_mono h fun b h => hk _ h
  · refine opt_mono h fun ls h => opt_mono h fun con h => opt_mono h fun as h => opt_mono h fun out h => ?_
    unfold callK at h ⊢
    split at h
    · exact opt_mono h fun p h => hx _ _ h
    · exact opt_mono h fun u h => hk _ h
  · exact opt_mono h fun l h => panK_mono h hx

theorem exL_mono {ops : Array Oper} : ∀ {l : List Oper} {m : Nat} {st : St} {K K' : Exit → St → Prop}, ExL tab Γ ops l m st K → (∀ e st, K e st → K' e st) → ExL tab Γ ops l m st K'
  | [], m, st, K, K', h, hk => hk _ _ h
  | o :: r, m, st, K, K', h, hk => by
    simp only [ExL] at h ⊢
    cases hg : gd ops st o with
    | run => rw [hg] at h; exact exOpF_mono h (fun u h => exL_mono h hk) (fun ch u h => hk _ _ h)
    | skip => rw [hg] at h; exact exL_mono h hk
    | ask b want =>
      rw [hg] at h
      exact ⟨fun e => exOpF_mono (h.1 e) (fun u h => exL_mono h hk) (fun ch u h => hk _ _ h), fun e => exL_mono (h.2 e) hk⟩
    | lost => rw [hg] at h; exact h

theorem ex_mono : ∀ {c : Code} {Q Q' : Exit → St → Prop} {st : St}, Ex tab Γ c Q st → (∀ e st, Q e st → Q' e st) → Ex tab Γ c Q' st := by
  have ops_mono : ∀ {ops : Array Oper} {l : List Oper} {m : Nat} {st : St} {tr : Tr} {K K' : St → Tr → Prop}, ExOps tab Γ ops l m st tr K → (∀ st tr, K st tr → K' st tr) → ExOps tab Γ ops l m st tr K' := by
    intro ops l
    induction l with
    | nil => intro m st tr K K' h hk; exact hk _ _ h
    | cons o r ih =>
      intro m st tr K K' h hk
      simp only [ExOps] at h ⊢
      split at h
      · obtain ⟨ls, h1, u, h2, h3⟩ := h; exact ⟨ls, h1, u, h2, ih h3 hk⟩
      · exact ih h hk
      · exact ⟨fun e => by obtain ⟨ls, h1, u, h2, h3⟩ := h.1 e; exact ⟨ls, h1, u, h2, ih h3 hk⟩, fun e => ih (h.2 e) hk⟩
      · exact h
  intro c
  induction c with
  | skip => intro Q Q' st h hq; exact hq _ _ h
  | region id ops draw =>
    intro Q Q' st h hq
    cases draw with
    | false => exact fun m => exL_mono (h m) hq
    | true => exact fun m => ops_mono (h m) fun st tr hk => ⟨hk.1, hq _ _ hk.2⟩
  | seq x y ihx ihy =>
    intro Q Q' st h hq
    rw [ex_seq] at h ⊢
    refine ihx h fun e st' hk => ?_
    cases e <;> first | exact ihy hk hq | exact hq _ _ hk
  | cond c x y ihx ihy =>
    intro Q Q' st h hq
    rw [ex_cond] at h ⊢
    exact opt_mono h fun b hb => ⟨fun e => ihx (hb.1 e) hq, fun e => ihy (hb.2 e) hq⟩
  | block id x ih =>
    intro Q Q' st h hq
    rw [ex_block] at h ⊢
    refine ih h fun e st' hk => ?_
    cases e with
    | exit j =>
      simp only [blockK] at hk ⊢
      by_cases e : j = id
      · rw [if_pos e] at hk ⊢; exact hq _ _ hk
      · rw [if_neg e] at hk ⊢; exact hq _ _ hk
    | _ => exact hq _ _ hk
  | loop x ih =>
    intro Q Q' st h hq
    obtain ⟨F, G, h⟩ := h
    refine ⟨F, G, fun m => ?_⟩
    obtain ⟨I, h1, h2⟩ := h m
    refine ⟨I, h1, fun n st hI => ih (h2 n st hI) fun e st' hk => ?_⟩
    cases e <;> first | exact hk | exact hq _ _ hk
  | exit id => intro Q Q' st h hq; exact hq _ _ h
  | label l => intro Q Q' st h hq; exact hq _ _ h
  | ret => intro Q Q' st h hq; exact hq _ _ h
  | rangeFunc => intro Q Q' st h hq; exact h
  | scope => intro Q Q' st h hq; exact h
  | goto => intro Q Q' st h hq; exact h
  | refuse => intro Q Q' st h hq; exact h

/-- A loop: what holds at its head (I, with a measure), and that each round keeps it. -/
theorem ex_loopG {x : Code} {Q : Exit → St → Prop} {st : St} (F : List Nat) (G : List (Nat × Ty)) (h : ∀ m, ∃ (I : Nat → St → Prop) (n : Nat), I n (opens m G (seals F st)) ∧ ∀ n st, I n st → Ex tab Γ x (loopK Q fun st' => ∃ k, k < n ∧ I k st') st) : Ex tab Γ (.loop x) Q st := by
  refine ⟨F, G, fun m => ?_⟩
  obtain ⟨I, n, h0, h⟩ := h m
  refine ⟨I, ⟨n, h0⟩, fun n st hI => ex_mono (h n st hI) fun e st' hk => ?_⟩
  cases e <;> exact hk
theorem ex_loop {x : Code} {Q : Exit → St → Prop} {st : St} (I : Nat → St → Prop) (n : Nat) (h0 : I n st) (h : ∀ n st, I n st → Ex tab Γ x (loopK Q fun st' => ∃ k, k < n ∧ I k st') st) : Ex tab Γ (.loop x) Q st := ex_loopG [] [] fun _ => ⟨I, n, h0, h⟩

/-! ### Regions -/
theorem sealR_no {ops : Array Oper} {st : St} (h : risky tab ops = false) : sealR tab ops st = st := by unfold sealR; rw [h]; rfl
theorem sealR_yes {ops : Array Oper} {st : St} (h : risky tab ops = true) : sealR tab ops st = sealP (keeps tab ops) st := by unfold sealR; rw [if_pos h]
theorem sealP_at {p : Nat → Bool} {st : St} {k : Nat} : sealP p st k = sealS (p k) (st k) := rfl
theorem sealS_off {b : Bool} {n : Nat} {t : Ty} {xs : List t.den} (h : b = false) : sealS b (.own n t xs) = .own n t xs := by rw [h]; rfl
theorem sealS_on {b : Bool} {n : Nat} {t : Ty} {xs : List t.den} (h : b = true) : sealS b (.own n t xs) = .val (.slice t) xs := by rw [h]; rfl
theorem sealS_dead {b : Bool} : sealS b .dead = .dead := by cases b <;> rfl
theorem sealS_val {b : Bool} {t : Ty} {x : t.den} : sealS b (.val t x) = .val t x := by cases b <;> rfl
theorem sealS_nil {b : Bool} : sealS b .nil = .nil := by cases b <;> rfl
theorem sealS_obj {b : Bool} {n : Nat} {t : Ty} {x : t.den} : sealS b (.obj n t x) = .obj n t x := by cases b <;> rfl
theorem sealS_asl {b : Bool} {n s : Nat} {r : Option (Nat × Nat)} : sealS b (.asl n s r) = .asl n s r := by cases b <;> rfl
theorem sealS_apt {b : Bool} {n s : Nat} {p : List Way} : sealS b (.apt n s p) = .apt n s p := by cases b <;> rfl
theorem sealS_rpt {b : Bool} {t : Ty} {x : t.den} : sealS b (.rpt t x) = .rpt t x := by cases b <;> rfl
theorem sealS_tup {b : Bool} {l : List Dv} : sealS b (.tup l) = .tup l := by cases b <;> rfl
theorem sealS_ifc {b : Bool} {T : TypeId} {t : Ty} {x : t.den} : sealS b (.ifc T t x) = .ifc T t x := by cases b <;> rfl
theorem ex_text_no {id : Nat} {ops : Array Oper} {Q : Exit → St → Prop} {st : St} (h : risky tab ops = false) : Ex tab Γ (.region id ops false) Q st = ∀ m, ExL tab Γ ops ops.toList m st Q := by
  show (∀ m, ExL tab Γ ops ops.toList m (sealR tab ops st) Q) = _
  rw [sealR_no h]
theorem ex_text_yes {id : Nat} {ops : Array Oper} {Q : Exit → St → Prop} {st : St} (h : risky tab ops = true) : Ex tab Γ (.region id ops false) Q st = ∀ m, ExL tab Γ ops ops.toList m (sealP (keeps tab ops) st) Q := by
  show (∀ m, ExL tab Γ ops ops.toList m (sealR tab ops st) Q) = _
  rw [sealR_yes h]
theorem ex_draw_no {id : Nat} {ops : Array Oper} {Q : Exit → St → Prop} {st : St} (h : risky tab ops = false) : Ex tab Γ (.region id ops true) Q st = ∀ m, ExOps tab Γ ops ops.toList m st [] fun st' tr => Indep ops tr.reverse ∧ Q .normal st' := by
  show (∀ m, ExOps tab Γ ops ops.toList m (sealR tab ops st) [] _) = _
  rw [sealR_no h]
theorem ex_draw_yes {id : Nat} {ops : Array Oper} {Q : Exit → St → Prop} {st : St} (h : risky tab ops = true) : Ex tab Γ (.region id ops true) Q st = ∀ m, ExOps tab Γ ops ops.toList m (sealP (keeps tab ops) st) [] fun st' tr => Indep ops tr.reverse ∧ Q .normal st' := by
  show (∀ m, ExOps tab Γ ops ops.toList m (sealR tab ops st) [] _) = _
  rw [sealR_yes h]

@[congr] theorem exL_congr {ops : Array Oper} {l : List Oper} {m : Nat} {K : Exit → St → Prop} {st st' : St} (h : st = st') : ExL tab Γ ops l m st K = ExL tab Γ ops l m st' K := by rw [h]
@[congr] theorem exOps_congr {ops : Array Oper} {l : List Oper} {m : Nat} {K : St → Tr → Prop} {st st' : St} {tr tr' : Tr} (h : st = st') (ht : tr = tr') : ExOps tab Γ ops l m st tr K = ExOps tab Γ ops l m st' tr' K := by rw [h, ht]
@[congr] theorem exOp_congr {o : Oper} {m : Nat} {K : Ups → Prop} {st st' : St} (h : st = st') : exOp tab Γ o m st K = exOp tab Γ o m st' K := by rw [h]

variable {d : Option Tmp} {ty0 : TypeId} {ps : String} {af : Array Edge} {g : Option (Nat × Bool)} {m : Nat} {st : St} {ops : Array Oper} {r : List Oper} {op : Op}

theorem exL_nil {K : Exit → St → Prop} : ExL tab Γ ops [] m st K = K .normal st := rfl
theorem exOpF_eq {o : Oper} {K : Ups → Prop} {X : List PanicEntry → Ups → Prop} (h : isLen o.op = false) : exOpF tab Γ o m st K X = exOp tab Γ o m st K := by
  unfold isLen at h
  unfold exOpF exOp
  split at h
  · rename_i e; rw [e]
  · cases h
def exSel (b : Bool) (X Y : Prop) : Prop := if b = true then X else Y
@[congr] theorem exSel_congr {b b' : Bool} {X Y : Prop} (h : b = b') : exSel b X Y = exSel b' X Y := by rw [h]
theorem exSel_true {X Y : Prop} : exSel true X Y = X := rfl
theorem exSel_false {X Y : Prop} : exSel false X Y = Y := rfl
theorem exL_plain {K : Exit → St → Prop} : ExL tab Γ ops (⟨d, op, ty0, ps, af, none⟩ :: r) m st K = exSel (isLen op) (exOpF tab Γ ⟨d, op, ty0, ps, af, none⟩ m st (fun u => ExL tab Γ ops r (m + 1) (app u st) K) (fun ch u => K (.panic ch) (app u st)))
    (exOp tab Γ ⟨d, op, ty0, ps, af, none⟩ m st fun u => ExL tab Γ ops r (m + 1) (app u st) K) := by
  cases h : isLen op with
  | true => rfl
  | false =>
    rw [exSel_false]
    show exOpF tab Γ ⟨d, op, ty0, ps, af, none⟩ m st _ _ = _
    exact exOpF_eq h

/-- A guarded operation: what its guard says. -/
def gSlot (st : St) (t : Option Tmp) : Slot :=
  match t with
  | none => .tup []
  | some t => if t < ghost then st t else .dead

def gUse (s : Slot) (want : Bool) (X Y : Prop) : Prop :=
  match s with
  | .val .bool b => br (b == want) X Y
  | .tup [] => Y
  | _ => False

theorem gUse_bool {b want : Bool} {X Y : Prop} : gUse (.val .bool b) want X Y = br (b == want) X Y := rfl
theorem gUse_tup {want : Bool} {X Y : Prop} : gUse (.tup []) want X Y = Y := rfl
@[congr] theorem gUse_congr {s s' : Slot} {want : Bool} {X Y : Prop} (h : s = s') : gUse s want X Y = gUse s' want X Y := by rw [h]

theorem gd_use {j : Nat} {want : Bool} {X Y : Prop} : (match gd ops st ⟨d, op, ty0, ps, af, some (j, want)⟩ with
    | .run => X | .skip => Y | .ask b w => br (b == w) X Y | .lost => False) = gUse (gSlot st (gtmp ops j)) want X Y := by
  unfold gd gSlot gUse
  simp only
  cases gtmp ops j with
  | none => rfl
  | some t =>
    simp only
    by_cases hlt : t < ghost
    · simp only [if_pos hlt]
      cases h : st t with
      | val ty x => cases ty <;> rfl
      | tup l => cases l <;> rfl
      | _ => rfl
    · simp only [if_neg hlt]

theorem exL_guard {K : Exit → St → Prop} {j : Nat} {want : Bool} : ExL tab Γ ops (⟨d, op, ty0, ps, af, some (j, want)⟩ :: r) m st K = gUse (gSlot st (gtmp ops j)) want
    (ExL tab Γ ops (⟨d, op, ty0, ps, af, none⟩ :: r) m st K) (ExL tab Γ ops r (m + 1) (app (dstUps d (.tup [])) st) K) := by
  rw [← gd_use (d := d) (op := op) (ty0 := ty0) (ps := ps) (af := af)]
  rfl

/-- The length of a slice is one that memory can have. -/
def lenK (tab : Tab) (t : TypeId) (l : Lk) (F : Nat → Prop) : Prop := opt (lenOf? tab t l) fun n => lenFact l → F n

@[congr] theorem lenK_congr {tab : Tab} {t : TypeId} {l l' : Lk} {F : Nat → Prop} (h : l = l') : lenK tab t l F = lenK tab t l' F := by rw [h]
@[congr] theorem exOpF_congr {o : Oper} {m : Nat} {K : Ups → Prop} {X : List PanicEntry → Ups → Prop} {st st' : St} (h : st = st') : exOpF tab Γ o m st K X = exOpF tab Γ o m st' K X := by rw [h]
theorem exOpF_len {K : Ups → Prop} {X : List PanicEntry → Ups → Prop} {x : Operand} {t : TypeId} {i : Nat} : exOpF tab Γ ⟨some i, .call { callee := .builtin .len, args := #[x], argTypes := #[t] }, ty0, ps, af, none⟩ m st K X =
    opt (look st x) fun l => lenK tab t l fun n => K [(i, .val (.int .i64) (n : Int))] := by
  simp only [exOpF, opnds, looks, lenK, kd]
  cases look st x with
  | none => simp [opt]
  | some l =>
    simp only [step, stepCall]
    cases h : lenOf? tab t l with
    | none => simp [opt, h]
    | some n => simp [opt, h, into, aliasOf]
theorem exOpF_nil {K : Ups → Prop} {X : List PanicEntry → Ups → Prop} {x : Operand} {t yt : TypeId} : exOpF tab Γ ⟨d, .binOp .eql t x (.const (.slice none 0 0)) yt, ty0, ps, af, none⟩ m st K X =
    opt (look st x) fun l => nilK tab t l fun b => K (dstUps d (.val .bool b)) := by
  simp only [exOpF, kd, isNil, Bool.bne_false]
theorem exOpF_notnil {K : Ups → Prop} {X : List PanicEntry → Ups → Prop} {x : Operand} {t yt : TypeId} : exOpF tab Γ ⟨d, .binOp .neq t x (.const (.slice none 0 0)) yt, ty0, ps, af, none⟩ m st K X =
    opt (look st x) fun l => nilK tab t l fun b => K (dstUps d (.val .bool (!b))) := by
  simp only [exOpF, kd, isNil, Bool.bne_true]
theorem exOpF_call {K : Ups → Prop} {X : List PanicEntry → Ups → Prop} {f : FuncId} {args : Array Operand} {ts : Array TypeId} : exOpF tab Γ ⟨d, .call { callee := .value (.func f), args := args, argTypes := ts }, ty0, ps, af, none⟩ m st K X =
    opt (looks st args.toList) fun ls => opt (Γ f) fun con => opt (toArgs ls (ts.toList.map (ty tab))) fun as => opt (con (as.map (·.arg))) fun out => callK con d m as out K X := rfl
theorem exOpF_panic {K : Ups → Prop} {X : List PanicEntry → Ups → Prop} {x : Operand} : exOpF tab Γ ⟨d, .panic x, ty0, ps, af, none⟩ m st K X = opt (look st x) fun l => panK l.s X := rfl
theorem panK_ifc {T : TypeId} {t : Ty} {x : t.den} {X : List PanicEntry → Ups → Prop} : panK (.ifc T t x) X = (flat t = true ∧ X [⟨ifcV T t x, false, false⟩] []) := rfl
@[congr] theorem panK_congr {s s' : Slot} {X : List PanicEntry → Ups → Prop} (h : s = s') : panK s X = panK s' X := by rw [h]
@[congr] theorem nilK_congr {t : TypeId} {l l' : Lk} {F : Bool → Prop} (h : l = l') : nilK tab t l F = nilK tab t l' F := by rw [h]

theorem len_str {tab : Tab} {t : TypeId} {z : ByteArray} {c : Slot} {F : Nat → Prop} (h : ty tab t = some .str) : lenK tab t ⟨.val .str z, c⟩ F = F z.size := by
  have hf : lenFact ⟨.val .str z, c⟩ = True := by simp [lenFact, slc]
  simp [lenK, lenOf?, h, opt, hf]
theorem len_val {tab : Tab} {t : TypeId} {u : Ty} {xs : List u.den} {c : Slot} {F : Nat → Prop} : lenK tab t ⟨.val (.slice u) xs, c⟩ F = onLen (ty tab t) (xs.length ≤ maxLen → F xs.length) (fun n => xs.length ≤ maxLen → F n) := by
  simp only [lenK, lenOf?]
  have hf : lenFact ⟨.val (.slice u) xs, c⟩ = (xs.length ≤ maxLen) := by
    simp only [lenFact, slc, Option.some.injEq]
    exact propext ⟨fun h => h _ rfl, fun h x e => by subst e; exact h⟩
  cases ty tab t with
  | none => simp [opt, onLen]
  | some T => cases T <;> simp [opt, hf, slc, onLen]
theorem len_row {tab : Tab} {t : TypeId} {u : Ty} {xs : List u.den} {n s : Nat} {F : Nat → Prop} : lenK tab t ⟨.asl n s none, .own n u xs⟩ F = onLen (ty tab t) (xs.length ≤ maxLen → F xs.length) (fun n => xs.length ≤ maxLen → F n) := by
  simp only [lenK, lenOf?]
  have hf : lenFact ⟨.asl n s none, .own n u xs⟩ = (xs.length ≤ maxLen) := by
    simp only [lenFact, slc, if_true, Option.some.injEq]
    exact propext ⟨fun h => h _ rfl, fun h x e => by subst e; exact h⟩
  cases ty tab t with
  | none => simp [opt, onLen]
  | some T => cases T <;> simp [opt, hf, slc, onLen]
theorem len_part {tab : Tab} {t : TypeId} {u : Ty} {xs : List u.den} {n s lo len : Nat} {F : Nat → Prop} : lenK tab t ⟨.asl n s (some (lo, len)), .own n u xs⟩ F = onLen (ty tab t) (((xs.drop lo).take len).length ≤ maxLen → F ((xs.drop lo).take len).length) (fun n => ((xs.drop lo).take len).length ≤ maxLen → F n) := by
  simp only [lenK, lenOf?]
  have hf : lenFact ⟨.asl n s (some (lo, len)), .own n u xs⟩ = (((xs.drop lo).take len).length ≤ maxLen) := by
    simp only [lenFact, slc, if_true, Option.some.injEq]
    exact propext ⟨fun h => h _ rfl, fun h x e => by subst e; exact h⟩
  cases ty tab t with
  | none => simp [opt, onLen]
  | some T => cases T <;> simp [opt, hf, slc, onLen]
theorem len_nil {tab : Tab} {t : TypeId} {c : Slot} {F : Nat → Prop} : lenK tab t ⟨.nil, c⟩ F = onLen (ty tab t) (F 0) (fun n => F n) := by
  simp only [lenK, lenOf?]
  have hf : lenFact ⟨.nil, c⟩ = True := by cases c <;> simp [lenFact, slc]
  cases ty tab t with
  | none => simp [opt, onLen]
  | some T => cases T <;> simp [opt, hf, onLen]

theorem exO_nil {tr : Tr} {K : St → Tr → Prop} : ExOps tab Γ ops [] m st tr K = K st tr := rfl
theorem exO_plain {tr : Tr} {K : St → Tr → Prop} : ExOps tab Γ ops (⟨d, op, ty0, ps, af, none⟩ :: r) m st tr K =
    exOp tab Γ ⟨d, op, ty0, ps, af, none⟩ m st fun u => ExOps tab Γ ops r (m + 1) (app u st) ((rds ops st ⟨d, op, ty0, ps, af, none⟩, keys u) :: tr) K := rfl
theorem exO_guard {tr : Tr} {K : St → Tr → Prop} {j : Nat} {want : Bool} : ExOps tab Γ ops (⟨d, op, ty0, ps, af, some (j, want)⟩ :: r) m st tr K = gUse (gSlot st (gtmp ops j)) want
    (exOp tab Γ ⟨d, op, ty0, ps, af, none⟩ m st fun u => ExOps tab Γ ops r (m + 1) (app u st) ((rds ops st ⟨d, op, ty0, ps, af, some (j, want)⟩, keys u) :: tr) K)
    (ExOps tab Γ ops r (m + 1) (app (dstUps d (.tup [])) st) ((rds ops st ⟨d, op, ty0, ps, af, some (j, want)⟩, keys (dstUps d (.tup []))) :: tr) K) := by
  rw [← gd_use (d := d) (op := op) (ty0 := ty0) (ps := ps) (af := af)]
  simp only [ExOps]
  cases gd ops st ⟨d, op, ty0, ps, af, some (j, want)⟩ with
  | ask b w =>
    simp only [br, beq_iff_eq, beq_eq_false_iff_ne]
    rfl
  | _ => rfl
end
end Go.Tm
