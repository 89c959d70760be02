/- Whole bodies: what is to be shown of a body (Ex), stepping through it in the order of its text. -/
import Derived.Test.YtlckajldmooefaaTmStamp
import Derived.Orders
import Derived.WalkSpells
import Derived.Lib.SliceRun
set_option linter.unusedVariables false
set_option linter.unusedSimpArgs false
namespace Go.Tm

/-- The result is there, and K holds of it. -/
def opt {α : Type} (x : Option α) (K : α → Prop) : Prop := ∃ y, x = some y ∧ K y

def gtmp (ops : Array Oper) (j : Nat) : Option Tmp := (ops[j]?).bind (·.dst)

inductive Gd where
  | run
  | skip
  | ask (b want : Bool)
  | lost

/-- Is the operation wanted? -/
def gd (ops : Array Oper) (st : St) (o : Oper) : Gd :=
  match o.guard with
  | none => .run
  | some (j, want) => match gtmp ops j with
    | none => .skip
    | some t => if t < ghost then match st t with
      | .val .bool b => .ask b want
      | .tup [] => .skip
      | _ => .lost
      else .lost

/-- What an operation reads, and what it turned. -/
abbrev Tr := List (List Nat × List Nat)

def rd1 (st : St) : Operand → List Nat
  | .tmp t => t :: (match aliasOf (st t) with | some (_, k) => [k] | none => [])
  | _ => []

def rds (ops : Array Oper) (st : St) (o : Oper) : List Nat :=
  (match o.guard with | some (j, _) => (gtmp ops j).toList | none => []) ++ ((opnds o.op).map (rd1 st)).flatten

def keys (u : Ups) : List Nat := u.map (·.1)

section
variable (tab : Tab) (Γ : Cons)

def exOp (o : Oper) (m : Nat) (st : St) (K : Ups → Prop) : Prop :=
  opt (looks st (opnds o.op)) fun ls => opt (step tab Γ o m ls) K

def ExOps (ops : Array Oper) : List Oper → Nat → St → Tr → (St → Tr → Prop) → Prop
  | [], _, st, tr, K => K st tr
  | o :: r, m, st, tr, K =>
    let go := fun (u : Ups) => ExOps ops r (m + 1) (app u st) ((rds ops st o, keys u) :: tr) K
    match gd ops st o with
    | .run => exOp tab Γ o m st go
    | .skip => go (dstUps o.dst (.tup []))
    | .ask b want => (b = want → exOp tab Γ o m st go) ∧ (b ≠ want → go (dstUps o.dst (.tup [])))
    | .lost => False

/-- Is it held against nil? -/
def isNil (op : BinOp) (y : Operand) : Option Bool :=
  match op, y with
  | .eql, .const (.slice none 0 0) => some false
  | .neq, .const (.slice none 0 0) => some true
  | _, _ => none

/-- Operations that are told in words of their own. -/
inductive Kd where
  | plain
  | len
  | nil (t : TypeId) (x : Operand) (neg : Bool)
  | call (f : FuncId) (args : Array Operand) (ts : Array TypeId)
  | panic (x : Operand)

def kd : Op → Kd
  | .binOp op t x y _ => match isNil op y with
    | some n => .nil t x n
    | none => .plain
  | .panic x => .panic x
  | .call c => match c.callee with
    | .builtin .len => .len
    | .value (.func f) => .call f c.args c.argTypes
    | _ => .plain
  | _ => .plain

def isLen (op : Op) : Bool :=
  match kd op with
  | .plain => false
  | _ => true

/-- What the machine's memory says of a slice. -/
def lenFact (l : Lk) : Prop := ∀ x, slc l = some x → x.2.length ≤ maxLen

def br (b : Bool) (X Y : Prop) : Prop := (b = true → X) ∧ (b = false → Y)

def nilK (t : TypeId) (l : Lk) (F : Bool → Prop) : Prop :=
  match ty tab t with
  | some (.slice _) => match l.s with
    | .nil => F true
    | _ => match slc l with
      | some x => ∀ b : Bool, (b = true → x.2 = []) → F b
      | none => False
  | _ => False

/-- The cells of what leads nowhere. -/
def fv : (t : Ty) → t.den → List Value
  | .int k, x => [.int k x]
  | .bool, x => [.bool x]
  | .str, x => [.string x]
  | .unit, _ => []
  | .prod a b, x => fv a x.1 ++ fv b x.2
  | .slice _, _ => []
  | .arr _ _, _ => []

def ifcV (T : TypeId) (t : Ty) (x : t.den) : Value := .iface T (mkv t (fv t x))

def panK (s : Slot) (X : List PanicEntry → Ups → Prop) : Prop :=
  match s with
  | .ifc T t x => flat t = true ∧ X [⟨ifcV T t x, false, false⟩] []
  | _ => False

def callK (con : Con) (d : Option Tmp) (m : Nat) (as : List Lent) (out : Out) (K : Ups → Prop) (X : List PanicEntry → Ups → Prop) : Prop :=
  match out.res with
  | .panic _ => opt (callP con as) fun p => X p.1 p.2
  | _ => opt (callT con d m as) K

def exOpF (o : Oper) (m : Nat) (st : St) (K : Ups → Prop) (X : List PanicEntry → Ups → Prop) : Prop :=
  match kd o.op with
  | .plain => opt (looks st (opnds o.op)) fun ls => opt (step tab Γ o m ls) K
  | .len => opt (looks st (opnds o.op)) fun ls => opt (step tab Γ o m ls) fun u => (∀ l ∈ ls, lenFact l) → K u
  | .nil t x neg => opt (look st x) fun l => nilK tab t l fun b => K (dstUps o.dst (.val .bool (b != neg)))
  | .call f args ts => opt (looks st args.toList) fun ls => opt (Γ f) fun con => opt (toArgs ls (ts.toList.map (ty tab))) fun as => opt (con (as.map (·.arg))) fun out => callK con o.dst m as out K X
  | .panic x => opt (look st x) fun l => panK l.s X

/-- In the order of the text. -/
def ExL (ops : Array Oper) : List Oper → Nat → St → (Exit → St → Prop) → Prop
  | [], _, st, Q => Q .normal st
  | o :: r, m, st, Q =>
    match gd ops st o with
    | .run => exOpF tab Γ o m st (fun u => ExL ops r (m + 1) (app u st) Q) (fun ch u => Q (.panic ch) (app u st))
    | .skip => ExL ops r (m + 1) (app (dstUps o.dst (.tup [])) st) Q
    | .ask b want => br (b == want) (exOpF tab Γ o m st (fun u => ExL ops r (m + 1) (app u st) Q) (fun ch u => Q (.panic ch) (app u st))) (ExL ops r (m + 1) (app (dstUps o.dst (.tup [])) st) Q)
    | .lost => False

def condOf (st : St) (c : Operand) : Option Bool :=
  match ref st c with
  | some (.val .bool b) => some b
  | _ => none

end

/-! ### Orders -/
def apart (x y : List Nat) : Bool := x.all fun k => !y.contains k

/-- The operations that must have run before each operation; 'none' where an edge leads ahead. -/
def clo : List Oper → List (List Nat) → Option (List (List Nat))
  | [], acc => some acc
  | o :: r, acc =>
    let es := (o.after.toList.filter (Region.binds .any)).map (·.on)
    if es.all (fun e => decide (e < acc.length)) then clo r (acc ++ [es ++ (es.map fun e => acc.getD e []).flatten]) else none

def pairOK (cl : List (List Nat)) (tr : Tr) (i j : Nat) : Bool :=
  (cl.getD j []).contains i ||
    (apart (tr.getD i ([], [])).2 (tr.getD j ([], [])).1 && apart (tr.getD i ([], [])).2 (tr.getD j ([], [])).2 && apart (tr.getD i ([], [])).1 (tr.getD j ([], [])).2)

def indep (ops : Array Oper) (tr : Tr) : Bool :=
  match clo ops.toList [] with
  | some cl => (List.range ops.size).all fun j => (List.range j).all fun i => pairOK cl tr i j
  | none => false

def Indep (ops : Array Oper) (tr : Tr) : Prop := indep ops tr = true

/-- Some of the call's own, told as only read from here on. -/
def seal1 (k : Nat) (st : St) : St := match st k with
  | .obj _ t x => if k < ghost then put st k (.rpt t x) else st
  | .own _ t xs => put st k (.val (.slice t) xs)
  | _ => st
def seals : List Nat → St → St
  | [], st => st
  | k :: F, st => seals F (seal1 k st)

/-- Some that are nil, told as empty rows of the call's own from here on. -/
def open1 (m k : Nat) (t : Ty) (st : St) : St := match st k with
  | .nil => put st k (.own m t [])
  | _ => st
def opens : Nat → List (Nat × Ty) → St → St
  | _, [], st => st
  | m, p :: G, st => opens (m + 1) G (open1 m p.1 p.2 st)

/-- Rows that are told as only read from the region's beginning on: those that are moved and then kept in a row of rows. -/
def keeps (tab : Tab) (ops : Array Oper) (k : Nat) : Bool :=
  ops.toList.any fun o => match o.op with
    | .buildSlice _ _ ps => ps.toList.any fun p => match p.2 with
      | .tmp d => ops.toList.any fun o2 => match o2.op with
        | .move (.tmp s) => s == k && (match o2.dst with | some e => e == d | none => false) && (match ty tab o2.type with | some (.slice _) => true | _ => false)
        | _ => false
      | _ => false
    | _ => false
def risky (tab : Tab) (ops : Array Oper) : Bool :=
  ops.toList.any fun o => match o.op with
    | .buildSlice _ _ ps => ps.toList.any fun p => match p.2 with
      | .tmp d => ops.toList.any fun o2 => match o2.op with
        | .move (.tmp _) => (match o2.dst with | some e => e == d | none => false) && (match ty tab o2.type with | some (.slice _) => true | _ => false)
        | _ => false
      | _ => false
    | _ => false
def sealS : Bool → Slot → Slot
  | true, .own _ t xs => .val (.slice t) xs
  | _, s => s
def sealP (p : Nat → Bool) (st : St) : St := fun k => sealS (p k) (st k)
def sealR (tab : Tab) (ops : Array Oper) (st : St) : St := if risky tab ops = true then sealP (keeps tab ops) st else st

section
variable (tab : Tab) (Γ : Cons)

def Ex : Code → (Exit → St → Prop) → St → Prop
  | .skip, Q, st => Q .normal st
  | .region _ ops false, Q, st => ∀ m, ExL tab Γ ops ops.toList m (sealR tab ops st) Q
  | .region _ ops true, Q, st => ∀ m, ExOps tab Γ ops ops.toList m (sealR tab ops st) [] fun st' tr => Indep ops tr.reverse ∧ Q .normal st'
  | .seq x y, Q, st => Ex x (fun e st' => match e with | .normal => Ex y Q st' | e => Q e st') st
  | .cond c x y, Q, st => match condOf st c with
    | some b => (b = true → Ex x Q st) ∧ (b = false → Ex y Q st)
    | none => False
  | .block id x, Q, st => Ex x (fun e st' => match e with | .exit j => if j = id then Q .normal st' else Q (.exit j) st' | e => Q e st') st
  | .loop x, Q, st => ∃ F : List Nat, ∃ G : List (Nat × Ty), ∀ m, ∃ I : Nat → St → Prop, (∃ n, I n (opens m G (seals F st))) ∧ ∀ n st, I n st → Ex x (fun e st' => match e with | .normal => ∃ k, k < n ∧ I k st' | e => Q e st') st
  | .exit id, Q, st => Q (.exit id) st
  | .label _, Q, st => Q .normal st
  | .ret, Q, st => Q .ret st
  | _, _, _ => False

end

def fits (N : Nat) : Code → Bool
  | .region _ ops _ => ops.all fun o => match o.dst with | some d => decide (d < N) | none => true
  | .seq x y => fits N x && fits N y
  | .cond _ x y => fits N x && fits N y
  | .block _ x => fits N x
  | .loop x => fits N x
  | _ => true

/-! ### Soundness -/
def Bnd (b : Nat) (st : St) : Prop := ∀ k n, stampOf (st k) = some n → n < b

structure Sim (B : World) (R0 L : Nat → Prop) (N : Env) (st : St) (a : Act) (w : World) : Prop where
  out : ∃ V b, Good B R0 L st V w ∧ Link N V a ∧ Bnd b st

theorem Sim.seal1 {B : World} {R0 L : Nat → Prop} {N : Env} {st : St} {a : Act} {w : World} (h : Sim B R0 L N st a w) (k : Nat) : Sim B R0 L N (Tm.seal1 k st) a w := by
  obtain ⟨V, b, hg, hl, hb⟩ := h.out
  have hbnd : ∀ s, stampOf s = none → Bnd b (put st k s) := fun s hs j n hn => by
    by_cases e : j = k
    · subst e; rw [put_same, hs] at hn; cases hn
    · rw [put_ne _ _ e] at hn; exact hb j n hn
  unfold Tm.seal1
  split
  · rename_i n t x hk
    split
    · rename_i hlt
      exact ⟨V, b, hg.freezeO hk hlt, hl, hbnd _ rfl⟩
    · exact h
  · rename_i n t xs hk
    exact ⟨V, b, hg.freeze hk, hl, hbnd _ rfl⟩
  · exact h
theorem Sim.seals {B : World} {R0 L : Nat → Prop} {N : Env} {a : Act} {w : World} : ∀ {F : List Nat} {st : St}, Sim B R0 L N st a w → Sim B R0 L N (Tm.seals F st) a w
  | [], _, h => h
  | k :: F, _, h => Sim.seals (F := F) (h.seal1 k)

theorem sealS_cases (b : Bool) (s : Slot) : (∃ n t xs, b = true ∧ s = .own n t xs ∧ sealS b s = .val (.slice t) xs) ∨ ((∀ n t xs, s = .own n t xs → b = false) ∧ sealS b s = s) := by
  cases b
  · exact .inr ⟨fun _ _ _ _ => rfl, by cases s <;> rfl⟩
  · cases s
    case own n t xs => exact .inl ⟨_, _, _, rfl, rfl, rfl⟩
    all_goals exact .inr ⟨(fun _ _ _ h => by cases h), rfl⟩
theorem sealS_none {b : Bool} {s : Slot} (h : stampOf s = none) : stampOf (sealS b s) = none := by cases b <;> cases s <;> first | rfl | exact h | cases h
theorem sealS_stamp {b : Bool} {s : Slot} {n : Nat} (h : stampOf (sealS b s) = some n) : stampOf s = some n := by cases b <;> cases s <;> first | exact h | cases h
theorem Good.sealP {B : World} {R0 L : Nat → Prop} {st : St} {V : Nat → Value} {w : World} (hg : Good B R0 L st V w) (p : Nat → Bool) : Good B R0 L (Tm.sealP p st) V w := by
  have hin : ∀ {k n t xs}, p k = true → st k = .own n t xs → Tm.sealP p st k = .val (.slice t) xs := fun hp hs => by
    unfold Tm.sealP; rw [hp, hs]; rfl
  have hout : ∀ {k}, ¬ (p k = true ∧ ∃ n t xs, st k = .own n t xs) → Tm.sealP p st k = st k := fun {k} h => by
    show sealS (p k) (st k) = st k
    rcases sealS_cases (p k) (st k) with ⟨n, t, xs, h1, h2, _⟩ | ⟨_, h2⟩
    · exact absurd ⟨h1, n, t, xs, h2⟩ h
    · exact h2
  refine hg.change (fun k => p k = true ∧ ∃ n t xs, st k = .own n t xs) rfl rfl rfl (Nat.le_refl _) (fun _ _ _ => rfl) (fun k hk => ⟨hout hk, rfl⟩) ?_ ?_ ?_ ?_
  · rintro hR k ⟨hp, n, t, xs, hs⟩
    have h := hg.rep k
    rw [hs] at h
    rw [hin hp hs]
    obtain ⟨A, c, cs, hv, h1, h2, h3, h4⟩ := h
    refine ⟨[V k], ⟨A, c, by rw [hv], h1, h2, ?_⟩, by simp [mkv, Ty.agg]⟩
    rcases h4 with ⟨rfl, rfl⟩ | ⟨ad, rfl, hm⟩
    · exact .inl (List.eq_nil_of_length_eq_zero (by omega))
    · refine .inr ⟨ad, cs, rfl, ⟨?_, fun k' hk' => ?_⟩, hm.block_lt, h3.imp (fun x c _ hx => rep_mono (Nat.le_refl _) hR (fun _ _ _ => rfl) t hx), hm.lies⟩
      · rcases hg.mine k ad.block (by rw [hs, hv]; rfl) with ⟨_, h5, _⟩ | h5
        · rw [hs] at h5; cases h5
        · exact .inr h5
      · by_cases e : p k' = true ∧ ∃ n t xs, st k' = .own n t xs
        · obtain ⟨hp', n', t', xs', hs'⟩ := e
          rw [hin hp' hs'] at hk'
          cases hk'
        · rw [hout e] at hk'
          have := hg.sep _ _ _ hk' (by rw [hs, hv]; rfl)
          subst this
          exact e ⟨hp, n, t, xs, hs⟩
  · rintro k b ⟨hp, n, t, xs, hs⟩ h
    rw [hin hp hs] at h
    cases h
  · rintro i j b ⟨hp, n, t, xs, hs⟩ _ h
    rw [hin hp hs] at h
    cases h
  · rintro k n' s' hk ⟨hp, n, t, xs, hs⟩ ha
    rw [hin hp hs]
    exact ⟨(fun t xs' h => by cases h), (fun t x' h => by cases h)⟩
theorem Sim.sealR {B : World} {R0 L : Nat → Prop} {N : Env} {st : St} {a : Act} {w : World} (h : Sim B R0 L N st a w) (tab : Tab) (ops : Array Oper) : Sim B R0 L N (Tm.sealR tab ops st) a w := by
  unfold Tm.sealR
  split
  · obtain ⟨V, b, hg, hl, hb⟩ := h.out
    exact ⟨V, b, hg.sealP _, hl, fun k n hn => hb k n (sealS_stamp hn)⟩
  · exact h

theorem alias_stamp {s : Slot} {n k : Nat} (h : aliasOf s = some (n, k)) : stampOf s = some n := by
  cases s <;> simp [aliasOf] at h <;> simp [stampOf, h]

theorem Good.opened {B : World} {R0 L : Nat → Prop} {st : St} {V : Nat → Value} {w : World} (hg : Good B R0 L st V w) {m k : Nat} {t : Ty} (hs : st k = .nil) (hb : Bnd m st) : Good B R0 L (Tm.put st k (.own m t [])) V w := by
  have hv : V k = .slice none 0 0 := by
    have := hg.rep k
    rw [hs] at this
    exact this
  refine hg.change (fun j => j = k) rfl rfl rfl (Nat.le_refl _) (fun _ _ _ => rfl) (fun j hj => ⟨put_ne _ _ hj, rfl⟩) ?_ ?_ ?_ ?_
  · rintro hR j rfl
    simp only [put_same]
    exact ⟨none, 0, [], hv, Nat.le_refl _, by unfold maxLen; omega, rfl, .inl ⟨rfl, rfl⟩⟩
  · rintro j b rfl h
    simp only [put_same, hv, ownBlk] at h
    cases h
  · rintro i j b rfl rfl _ _
    rfl
  · rintro j n' s' hk rfl ha
    have := hb j n' (alias_stamp ha)
    simp only [put_same]
    refine ⟨(fun t xs' h => ?_), (fun t x' h => by cases h)⟩
    cases h
    omega
theorem Sim.opens {B : World} {R0 L : Nat → Prop} {N : Env} {a : Act} {w : World} {V : Nat → Value} (hl : Link N V a) : ∀ {G : List (Nat × Ty)} {m : Nat} {st : St}, Good B R0 L st V w → Bnd m st → Sim B R0 L N (Tm.opens m G st) a w
  | [], m, _, hg, hb => ⟨V, m, hg, hl, hb⟩
  | p :: G, m, st, hg, hb => by
    have hb' : Bnd (m + 1) (Tm.open1 m p.1 p.2 st) := by
      unfold Tm.open1
      split <;> intro j n hn
      · by_cases e : j = p.1
        · subst e
          rw [put_same] at hn
          cases hn
          omega
        · rw [put_ne _ _ e] at hn
          exact Nat.lt_succ_of_lt (hb j n hn)
      · exact Nat.lt_succ_of_lt (hb j n hn)
    refine Sim.opens hl (G := G) (m := m + 1) ?_ hb'
    unfold Tm.open1
    split
    · rename_i hk
      exact hg.opened hk hb
    · exact hg

theorem self_stamp (t : Nat) (s : Slot) : stampOf (self t s) = stampOf s := by cases s <;> rfl

theorem app_stamp {u : Ups} {st : St} {k n : Nat} (h : stampOf (app u st k) = some n) : (∃ p ∈ u, stampOf p.2 = some n) ∨ stampOf (st k) = some n := by
  induction u generalizing st with
  | nil => exact .inr h
  | cons p u ih =>
    rw [app_cons] at h
    rcases ih h with ⟨q, hq, hn⟩ | h
    · exact .inl ⟨q, by simp [hq], hn⟩
    · by_cases e : k = p.1
      · subst e
        rw [put_same] at h
        exact .inl ⟨p, by simp, h⟩
      · rw [put_ne _ _ e] at h
        exact .inr h

theorem look_stamp {st : St} {x : Operand} {l : Lk} {n : Nat} (h : look st x = some l) (hn : stampOf l.s = some n) : ∃ k, stampOf (st k) = some n := by
  simp only [look, Option.map_eq_some_iff] at h
  obtain ⟨s, hs, rfl⟩ := h
  cases x with
  | tmp t =>
    simp only [ref] at hs
    split at hs
    · injection hs with hs
      subst hs
      exact ⟨t, by rw [← self_stamp t]; exact hn⟩
    · cases hs
  | const v =>
    simp only [ref] at hs
    obtain ⟨h1, h2⟩ := cst_low hs
    simp only at hn
    cases s <;> simp [stampOf, owning, aliasOf] at hn h1 h2
  | global g => simp [ref] at hs
  | func f => simp [ref] at hs

theorem looks_stamp {st : St} {n : Nat} : ∀ {xs : List Operand} {ls : List Lk}, looks st xs = some ls → (∃ l ∈ ls, stampOf l.s = some n) → ∃ k, stampOf (st k) = some n
  | [], ls, h, ⟨l, hl, _⟩ => by
    simp only [looks, Option.some.injEq] at h
    subst h
    simp at hl
  | x :: xs, ls, h, ⟨l, hl, hn⟩ => by
    simp only [looks] at h
    split at h
    · rename_i l' ls' h1 h2
      injection h with h
      subst h
      rcases List.mem_cons.1 hl with rfl | hl
      · exact look_stamp h1 hn
      · exact looks_stamp h2 ⟨l, hl, hn⟩
    · cases h

theorem step_bnd {tab : Tab} {Γ : Cons} {st : St} {o : Oper} {m : Nat} {ls : List Lk} {ups : Ups} (hx : looks st (opnds o.op) = some ls) (hs : step tab Γ o m ls = some ups) {k n : Nat} (h : stampOf (app ups st k) = some n) :
    n = m ∨ ∃ k, stampOf (st k) = some n := by
  rcases app_stamp h with ⟨p, hp, hn⟩ | h
  · rcases step_stamped hs p hp n hn with h | h
    · exact .inl h
    · exact .inr (looks_stamp hx h)
  · exact .inr ⟨k, h⟩

def ConsOK (P : Program) (Γ : Cons) : Prop := ∀ f con, Γ f = some con → ConOK P f con

section
variable {P : Program} {tab : Tab} {Γ : Cons} {B : World} {R0 L : Nat → Prop} {st : St} {V : Nat → Value} {w : World} {N : Env} {a : Act} {o : Oper} {ups : Ups} {m : Nat} {ls : List Lk}

theorem app_one {st : St} {d : Option Tmp} {s : Slot} : app (dstUps d s) st = putO st d s := by cases d <;> rfl

theorem putO_none_eq {d : Option Tmp} (h : d = none) (V : Nat → Value) (v v' : Value) : putO V d v = putO V d v' := by subst h; rfl

theorem step_ok (ok : TabOK P tab) (hΓ : ConsOK P Γ) (hg : Good B R0 L st V w) (hl : Link N V a) (hf : Fresh m st) (hx : looks st (opnds o.op) = some ls)
    (hs : step tab Γ o m ls = some ups) {K : Act → World → Prop} {Q : Exit → Act → World → Prop} (hK : ∀ v w', Good B R0 L (app ups st) (putO V o.dst v) w' → K (a.put o.dst v) w') : o.wp P a w K Q := by
  cases hfn : isFn o.op with
  | false =>
    obtain ⟨v, w', h1, h2⟩ := step_did ok hg hl hf hfn hx hs
    unfold Oper.wp
    rcases h1 with h1 | ⟨h1, h3⟩
    · rw [h1, Oper.upon_value]
      exact hK v w' h2
    · rw [h1, Oper.upon_skip]
      refine hK undef w' ?_
      rw [putO_none_eq h3 V undef v]
      exact h2
  | true =>
    obtain ⟨c, hc⟩ : ∃ c, o.op = .call c := by
      cases ho : o.op <;> rw [ho] at hfn <;> simp [isFn] at hfn
      exact ⟨_, rfl⟩
    rw [hc] at hx hfn
    have hs' : stepCall tab Γ c o.dst m ls = some ups := by
      unfold step at hs
      rw [hc] at hs
      simpa using hs
    obtain ⟨callee, args, ts⟩ := c
    unfold stepCall at hs'
    simp only at hs'
    split at hs'
    · simp [isFn] at hfn
    · simp [isFn] at hfn
    · simp [isFn] at hfn
    · simp [isFn] at hfn
    · rename_i f
      split at hs'
      · rename_i con as hcon has
        simp only [opnds] at hx
        obtain ⟨g1, g2⟩ := args_ok hg hl hx has
        obtain ⟨out, hout⟩ : ∃ out, con (as.map (·.arg)) = some out := by
          unfold callT at hs'
          split at hs'
          · split at hs'
            · exact ⟨_, by assumption⟩
            · cases hs'
          · cases hs'
        obtain ⟨k0, k1, k2⟩ := call_kept (d := o.dst) hg hf g1 g2 hout hs'
        have hgo := hΓ f con hcon _ out _ w _ hout k1
        unfold Oper.wp
        have hargs : args.map a.eval = (args.toList.map a.eval).toArray := by
          apply Array.ext'
          simp
        rcases hgo with ⟨g, gs, w1, r1, r2⟩ | ⟨_, v, w', r1, r2⟩
        · have : (execOp a.eval o).run P w = .ok (.enter g gs) w1 := by
            simp only [execOp, hc]
            simp [resolve, Deferred.ofValue, invoke, Act.eval, hargs, r1]
          rw [this, Oper.upon_enter]
          refine r2.mono fun e w' he => ?_
          obtain ⟨v, rfl, hv⟩ := he
          rw [ends_ret k0]
          exact hK v w' (k2 v w' hv)
        · have : (execOp a.eval o).run P w = .ok (.value v) w' := by
            simp only [execOp, hc]
            simp [resolve, Deferred.ofValue, invoke, Act.eval, hargs, r1]
          rw [this, Oper.upon_value]
          exact hK v w' (k2 v w' r2)
      · cases hs'
    · cases hs'

theorem undef_tup : SlotRep w R0 st V (.tup []) undef := ⟨[], rfl, rfl⟩

theorem skip_good (hg : Good B R0 L st V w) (d : Option Tmp) : Good B R0 L (app (dstUps d (.tup [])) st) (putO V d undef) w := by
  cases d with
  | none => exact hg
  | some d => exact hg.put d _ _ rfl rfl rfl rfl rfl undef_tup (fun n e => by cases e)

theorem Link.putO (hl : Link N V a) {d : Option Tmp} (hd : ∀ k, d = some k → k < N.n) (v : Value) : Link N (putO V d v) (a.put d v) := by
  cases d with
  | none => exact hl
  | some d => exact hl.put (hd d rfl) v

/-- What a guard says, in the machine. -/
theorem gd_ok (hg : Good B R0 L st V w) (hl : Link N V a) (ops : Array Oper) (o : Oper) :
    (gd ops st o = .run → Region.wanted o (yielded ops a.tmps) = true) ∧ (gd ops st o = .skip → Region.wanted o (yielded ops a.tmps) = false) ∧
    (∀ b want, gd ops st o = .ask b want → Region.wanted o (yielded ops a.tmps) = (b == want)) := by
  unfold gd Region.wanted
  cases hgd : o.guard with
  | none => exact ⟨fun _ => rfl, (fun h => by cases h), (fun _ _ h => by cases h)⟩
  | some p =>
    obtain ⟨j, want⟩ := p
    simp only
    cases ht : gtmp ops j with
    | none =>
      have : yielded ops a.tmps j = none := by
        unfold yielded
        unfold gtmp at ht
        rw [ht]
        rfl
      refine ⟨(fun h => by cases h), fun _ => by simp [this], (fun _ _ h => by cases h)⟩
    | some t =>
      simp only
      split
      case isFalse => exact ⟨(fun h => by cases h), (fun h => by cases h), (fun _ _ h => by cases h)⟩
      rename_i hlt
      have hy : yielded ops a.tmps j = (match V t with | .bool b => some b | _ => none) := by
        unfold yielded
        unfold gtmp at ht
        rw [ht, hl.val t hlt, Array.getD_eq_getD_getElem?]
        simp only [Option.bind_some]
        cases a.tmps[t]? with
        | none => rfl
        | some v => cases v <;> rfl
      have hr := hg.rep t
      split
      · rename_i b hs
        rw [hs] at hr
        have hv := vrep_bool hr
        refine ⟨(fun h => by cases h), (fun h => by cases h), fun b' w' h => ?_⟩
        injection h with h1 h2
        subst h1 h2
        rw [hy, hv]
        simp
      · rename_i hs
        rw [hs] at hr
        obtain ⟨vs, hv, h0⟩ := hr
        refine ⟨(fun h => by cases h), fun _ => ?_, (fun _ _ h => by cases h)⟩
        rw [hy, hv]
        simp
      · exact ⟨(fun h => by cases h), (fun h => by cases h), (fun _ _ h => by cases h)⟩

/-- What one operation turns: a run of it, or its being passed by. -/
inductive OpDone (tab : Tab) (Γ : Cons) (ops : Array Oper) (o : Oper) (m : Nat) (st : St) : Ups → Prop
  | run {ls : List Lk} {ups : Ups} (h : gd ops st o = .run ∨ ∃ b, gd ops st o = .ask b b) (hx : looks st (opnds o.op) = some ls) (hs : step tab Γ o m ls = some ups) : OpDone tab Γ ops o m st ups
  | skip (h : gd ops st o = .skip ∨ ∃ b want, gd ops st o = .ask b want ∧ b ≠ want) : OpDone tab Γ ops o m st (dstUps o.dst (.tup []))

theorem done_wp (ok : TabOK P tab) (hΓ : ConsOK P Γ) {ops : Array Oper} {i : Nat} (hi : ops[i]? = some o) (hN : ∀ k, o.dst = some k → k < N.n) (hg : Good B R0 L st V w) (hl : Link N V a) (hf : Fresh m st) (h : OpDone tab Γ ops o m st ups)
    {K : Act → World → Prop} {Q : Exit → Act → World → Prop} (hK : ∀ V' a' w', Good B R0 L (app ups st) V' w' → Link N V' a' → K a' w') : wpOp P ops Q i K a w := by
  unfold wpOp
  rw [hi]
  simp only
  obtain ⟨g1, g2, g3⟩ := gd_ok hg hl ops o
  cases h with
  | run h hx hs =>
    have hw : Region.wanted o (yielded ops a.tmps) = true := by
      rcases h with h | ⟨b, h⟩
      · exact g1 h
      · rw [g3 _ _ h]; simp
    rw [if_pos hw]
    exact .inl (step_ok ok hΓ hg hl hf hx hs fun v w' hgo => hK _ _ _ hgo (hl.putO hN v))
  | skip h =>
    have hw : Region.wanted o (yielded ops a.tmps) = false := by
      rcases h with h | ⟨b, want, h, hne⟩
      · exact g2 h
      · rw [g3 _ _ h]; simpa using hne
    rw [if_neg (by rw [hw]; simp)]
    exact hK _ _ _ (skip_good hg o.dst) (hl.putO hN undef)

theorem done_bnd {ops : Array Oper} (h : OpDone tab Γ ops o m st ups) {k n : Nat} (hn : stampOf (app ups st k) = some n) : n = m ∨ ∃ k, stampOf (st k) = some n := by
  cases h with
  | run h hx hs => exact step_bnd hx hs hn
  | skip h =>
    rcases app_stamp hn with ⟨p, hp, hn⟩ | h
    · cases hd : o.dst <;> rw [hd] at hp <;> simp [dstUps] at hp
      subst hp
      simp [stampOf] at hn
    · exact .inr ⟨k, h⟩

/-- A run in the order of the text. -/
inductive RunT (tab : Tab) (Γ : Cons) (ops : Array Oper) : List Oper → Nat → St → List (List Nat × Ups) → St → Prop
  | nil {m : Nat} {st : St} : RunT tab Γ ops [] m st [] st
  | cons {o : Oper} {r : List Oper} {m : Nat} {st st' : St} {u : Ups} {l : List (List Nat × Ups)} (h : OpDone tab Γ ops o m st u) (k : RunT tab Γ ops r (m + 1) (app u st) l st') : RunT tab Γ ops (o :: r) m st ((rds ops st o, u) :: l) st'

theorem exOps_run {ops : Array Oper} : ∀ {l : List Oper} {m : Nat} {st : St} {tr : Tr} {K : St → Tr → Prop}, ExOps tab Γ ops l m st tr K →
    ∃ us st', RunT tab Γ ops l m st us st' ∧ K st' ((us.map fun x => (x.1, keys x.2)).reverse ++ tr)
  | [], m, st, tr, K, h => ⟨[], st, .nil, h⟩
  | o :: r, m, st, tr, K, h => by
    have fin : ∀ u, OpDone tab Γ ops o m st u → ExOps tab Γ ops r (m + 1) (app u st) ((rds ops st o, keys u) :: tr) K →
        ∃ us st', RunT tab Γ ops (o :: r) m st us st' ∧ K st' ((us.map fun x => (x.1, keys x.2)).reverse ++ tr) := by
      intro u hu h
      obtain ⟨us, st', h1, h2⟩ := exOps_run h
      exact ⟨_, st', .cons hu h1, by simpa using h2⟩
    simp only [ExOps] at h
    split at h
    · rename_i hgd
      obtain ⟨ls, hx, ups, hs, h⟩ := h
      exact fin _ (.run (.inl hgd) hx hs) h
    · rename_i hgd
      exact fin _ (.skip (.inl hgd)) h
    · rename_i b want hgd
      by_cases e : b = want
      · obtain ⟨ls, hx, ups, hs, h'⟩ := h.1 e
        subst e
        exact fin _ (.run (.inr ⟨_, hgd⟩) hx hs) h'
      · exact fin _ (.skip (.inr ⟨_, _, hgd, e⟩)) (h.2 e)
    · exact h.elim

theorem fv_rep {R : Nat → Prop} : ∀ {t : Ty} {x : t.den} {cs : List Value}, flat t = true → rep w R t x cs → cs = fv t x
  | .int _, _, _, _, h => h
  | .bool, _, _, _, h => h
  | .str, _, _, _, h => h
  | .unit, _, _, _, h => h
  | .prod a b, _, _, hf, h => by
    simp only [flat, Bool.and_eq_true] at hf
    obtain ⟨c1, c2, rfl, h1, h2⟩ := h
    rw [fv_rep hf.1 h1, fv_rep hf.2 h2]
    rfl

theorem looks_cons {st : St} {x : Operand} {l : Lk} (h : look st x = some l) : looks st [x] = some [l] := by simp [looks, h]

theorem wp_now {ops : Array Oper} {i : Nat} (hi : ops[i]? = some o) (hw : Region.wanted o (yielded ops a.tmps) = true) {K : Act → World → Prop} {Q : Exit → Act → World → Prop} (h : o.wp P a w K Q) : wpOp P ops Q i K a w := by
  unfold wpOp
  rw [hi]
  simp only
  rw [if_pos hw]
  exact .inl h

theorem wanted_run (hg : Good B R0 L st V w) (hl : Link N V a) {ops : Array Oper} (h : gd ops st o = .run ∨ ∃ b, gd ops st o = .ask b b) : Region.wanted o (yielded ops a.tmps) = true := by
  obtain ⟨g1, g2, g3⟩ := gd_ok hg hl ops o
  rcases h with h | ⟨b, h⟩
  · exact g1 h
  · rw [g3 _ _ h]; simp

theorem nil_wp (ok : TabOK P tab) (hN : ∀ k, o.dst = some k → k < N.n) (hg : Good B R0 L st V w) (hl : Link N V a) {t yt : TypeId} {x y : Operand} {op : BinOp} {neg : Bool} (ho : o.op = .binOp op t x y yt) (hn : isNil op y = some neg) {l : Lk} (hx : look st x = some l)
    {F : Bool → Prop} (h : nilK tab t l F) {K : Act → World → Prop} {Q : Exit → Act → World → Prop}
    (hK : ∀ b, F b → ∀ V' a', Good B R0 L (app (dstUps o.dst (.val .bool (b != neg))) st) V' w → Link N V' a' → K a' w) : o.wp P a w K Q := by
  have hlk := look_ok hg hl hx
  have put : ∀ b : Bool, Good B R0 L (app (dstUps o.dst (.val .bool b)) st) (putO V o.dst (.bool b)) w := by
    intro b
    cases o.dst with
    | none => exact hg
    | some d => exact hg.put d _ _ rfl rfl rfl rfl rfl (mk_bool _ _ _) (fun n e => by cases e)
  obtain ⟨A, len, c, b, hv, hb, hF⟩ : ∃ A len c b, a.eval x = .slice A len c ∧ b = A.isNone ∧ F b := by
    unfold nilK at h
    split at h
    · split at h
      · rename_i hs
        have := hlk.rep
        rw [hs] at this
        exact ⟨none, 0, 0, true, this, rfl, h⟩
      · split at h
        · rename_i xs hsl
          obtain ⟨A, c, cs, hv, _, _, _, hor⟩ := slc_ok hg hlk hsl
          refine ⟨A, _, c, A.isNone, hv, rfl, h _ (fun hA => ?_)⟩
          rcases hor with h0 | ⟨ad, h0, _⟩
          · exact h0
          · rw [h0] at hA; cases hA
        · exact h.elim
    · exact h.elim
  have hty : ∃ e, P.underlying t = some (.slice e) := by
    unfold nilK at h
    split at h
    · rename_i hty
      obtain ⟨e, h1, _⟩ := tab_slice ok hty
      exact ⟨e, h1⟩
    · exact h.elim
  obtain ⟨e, hu⟩ := hty
  have hK' := hK b hF _ _ (put (b != neg)) (hl.putO hN _)
  unfold Oper.wp
  have he0 : a.eval (.const (.slice none 0 0)) = .slice none 0 0 := rfl
  have hrun : (execOp a.eval o).run P w = .ok (.value (.bool (b != neg))) w := by
    unfold isNil at hn
    split at hn
    · injection hn with hn
      subst hn hb
      simp [execOp, ho, hv, he0, eqGuard, Lib.run_eql_slice_nil w t e A len c 0 0 hu]
    · injection hn with hn
      subst hn hb
      simp [execOp, ho, hv, he0, eqGuard, run_neq_slice_nil_any w t e A len c 0 0 hu]
    · cases hn
  rw [hrun, Oper.upon_value]
  exact hK'

theorem text_ops (ok : TabOK P tab) (hΓ : ConsOK P Γ) {ops : Array Oper} {Q : Exit → Act → World → Prop} {K : Exit → St → Prop} : ∀ {l : List Oper} {i m : Nat} {st : St} {V : Nat → Value} {a : Act} {w : World},
    (∀ j, l[j]? = ops[i + j]?) → (∀ o ∈ l, ∀ k, o.dst = some k → k < N.n) → ExL tab Γ ops l m st K → Good B R0 L st V w → Link N V a → Bnd m st →
    (∀ e st' V' a' w', K e st' → Good B R0 L st' V' w' → Link N V' a' → (∃ b, Bnd b st') → Q e a' w') → wpOps P ops Q (List.range' i l.length) a w
  | [], i, m, st, V, a, w, hj, hN, h, hg, hl, hb, hQ => by
    simp only [List.length_nil, List.range'_zero, wpOps]
    exact hQ _ _ _ _ _ h hg hl ⟨m, hb⟩
  | o :: r, i, m, st, V, a, w, hj, hN, h, hg, hl, hb, hQ => by
    rw [List.length_cons, List.range'_succ, wpOps_cons]
    have hi : ops[i]? = some o := by simpa using (hj 0).symm
    have hfr : Fresh m st := fun k n s ha e => by have := hb k n (alias_stamp ha); omega
    have rest : ∀ {st' V' a' w'}, ExL tab Γ ops r (m + 1) st' K → Good B R0 L st' V' w' → Link N V' a' → Bnd (m + 1) st' → wpOps P ops Q (List.range' (i + 1) r.length) a' w' := by
      intro st' V' a' w' h g l hb'
      refine text_ops ok hΓ (fun j => ?_) (fun o' ho' => hN o' (by simp [ho'])) h g l hb' hQ
      have := hj (j + 1)
      simp only [List.getElem?_cons_succ] at this
      rw [this]
      congr 1
      omega
    have fin : ∀ u, OpDone tab Γ ops o m st u → ExL tab Γ ops r (m + 1) (app u st) K → wpOp P ops Q i (wpOps P ops Q (List.range' (i + 1) r.length)) a w := by
      intro u hd h
      refine done_wp ok hΓ hi (hN o (by simp)) hg hl hfr hd fun V' a' w' g l => rest h g l (fun k n hn => ?_)
      rcases done_bnd hd hn with h | ⟨k', h⟩
      · omega
      · have := hb k' n h
        omega
    have run : (gd ops st o = .run ∨ ∃ b, gd ops st o = .ask b b) → (exOpF tab Γ o m st (fun u => ExL tab Γ ops r (m + 1) (app u st) K) (fun ch u => K (.panic ch) (app u st))) → wpOp P ops Q i (wpOps P ops Q (List.range' (i + 1) r.length)) a w := by
      intro hgd h
      have hw := wanted_run hg hl hgd
      unfold exOpF at h
      split at h
      · obtain ⟨ls, hx, ups, hs, h⟩ := h
        exact fin ups (.run hgd hx hs) h
      · obtain ⟨ls, hx, ups, hs, h⟩ := h
        refine fin ups (.run hgd hx hs) (h fun l hl' => ?_)
        obtain ⟨g1, g2⟩ := looks_at hg hl hx
        obtain ⟨j, hj', hlj⟩ := List.mem_iff_getElem.1 hl'
        have hlen : j < ((opnds o.op).map a.eval).length := by rw [← g1]; exact hj'
        have hlk := g2 j l _ (by rw [List.getElem?_eq_getElem hj', hlj]) (List.getElem?_eq_getElem hlen)
        intro x hx'
        obtain ⟨t, xs⟩ := x
        obtain ⟨A, c, cs, _, h1, h2, _⟩ := slc_ok hg hlk hx'
        exact Nat.le_trans h1 h2
      · rename_i t x neg hk
        obtain ⟨l, hx, h⟩ := h
        obtain ⟨op, y, yt, ho, hn⟩ : ∃ op y yt, o.op = .binOp op t x y yt ∧ isNil op y = some neg := by
          cases ho : o.op <;> rw [ho] at hk <;> simp only [kd] at hk <;> try (cases hk; done)
          · split at hk
            · rename_i hn
              injection hk with h1 h2 h3
              subst h1 h2 h3
              exact ⟨_, _, _, rfl, hn⟩
            · cases hk
          · split at hk <;> cases hk
        refine wp_now hi hw (nil_wp ok (hN o (by simp)) hg hl ho hn hx h fun b hF V' a' g l => rest hF g l (fun k n hn' => ?_))
        rcases app_stamp hn' with ⟨p, hp, hs⟩ | h'
        · cases hd : o.dst <;> rw [hd] at hp <;> simp [dstUps] at hp
          subst hp
          simp [stampOf, owning, aliasOf] at hs
        · have := hb k n h'
          omega
      · rename_i f args ts hk
        obtain ⟨ls, hx, con, hcon, as, has, out, hout, h⟩ := h
        obtain ⟨ho⟩ : Nonempty (o.op = .call { callee := .value (.func f), args := args, argTypes := ts }) := by
          cases ho : o.op <;> rw [ho] at hk <;> simp only [kd] at hk <;> try (cases hk; done)
          · split at hk <;> cases hk
          · rename_i c
            obtain ⟨cal, as', ts'⟩ := c
            simp only at hk
            split at hk
            · cases hk
            · injection hk with h1 h2 h3
              subst h1 h2 h3
              exact ⟨rfl⟩
            · cases hk
        have hx' : looks st (opnds o.op) = some ls := by rw [ho]; exact hx
        unfold callK at h
        split at h
        · rename_i ch hr
          obtain ⟨p, hp, h⟩ := h
          obtain ⟨ch', ups⟩ := p
          obtain ⟨g1, g2⟩ := args_ok hg hl hx has
          obtain ⟨k0, k1, k2⟩ := callP_kept (m := m) hg hfr g1 g2 hout hp
          have hgo := hΓ f con hcon _ out _ w _ hout k1
          refine wp_now hi hw ?_
          unfold Oper.wp
          have hargs : args.map a.eval = (args.toList.map a.eval).toArray := by
            apply Array.ext'
            simp
          rcases hgo with ⟨g, gs, w1, r1, r2⟩ | ⟨hnp, _⟩
          · have : (execOp a.eval o).run P w = .ok (.enter g gs) w1 := by
              simp only [execOp, ho]
              simp [resolve, Deferred.ofValue, invoke, Act.eval, hargs, r1]
            rw [this, Oper.upon_enter]
            refine r2.mono fun e w' he => ?_
            obtain ⟨v, rfl, hv⟩ := he
            rw [k0]
            refine hQ _ _ V a w' h (k2 v w' hv) hl ⟨m + 1, fun k n hn => ?_⟩
            have hup : Stamped m ls ups := by
              unfold callP at hp
              split at hp
              · simp only [hout, k0] at hp
                split at hp
                · rename_i u hu
                  injection hp with hp
                  injection hp with _ hp
                  subst hp
                  obtain ⟨s1, s2⟩ := args_stamped has
                  refine .append ?_ (ioUps_stamped s2 hu)
                  split
                  · exact .low s1
                  · exact .nil
                · cases hp
              · cases hp
            rcases app_stamp hn with ⟨q, hq, hs⟩ | h'
            · rcases hup q hq n hs with h' | h'
              · omega
              · obtain ⟨k', hk'⟩ := looks_stamp hx h'
                have := hb k' n hk'
                omega
            · have := hb k n h'
              omega
          · rw [k0] at hnp; cases hnp
        · obtain ⟨ups, hs, h⟩ := h
          refine fin ups (.run hgd hx' ?_) h
          unfold step
          rw [ho]
          simp only [stepCall, hcon, has]
          exact hs
      · rename_i x hk
        obtain ⟨l, hx, h⟩ := h
        have ho : o.op = .panic x := by
          cases ho : o.op <;> rw [ho] at hk <;> simp only [kd] at hk <;> try (cases hk; done)
          · split at hk <;> cases hk
          · split at hk <;> cases hk
          · injection hk with hk; rw [hk]
        unfold panK at h
        split at h
        · rename_i T t v hs
          obtain ⟨hf, h⟩ := h
          have hr := (look_ok hg hl hx).rep
          rw [hs] at hr
          obtain ⟨u, hv, cs, hcs, hu⟩ := hr
          have : cs = fv t v := fv_rep hf hcs
          subst this
          refine wp_now hi hw ?_
          unfold Oper.wp
          have : (execOp a.eval o).run P w = .halt (.panic (ifcV T t v)) w := by
            have he : a.eval x = ifcV T t v := by rw [hv, hu]; rfl
            simp [execOp, ho, he, ifcV, Instr.panic, goPanic]
          rw [this, Oper.upon_panic]
          exact hQ _ _ V a w h hg hl ⟨m, hb⟩
        · exact h.elim
    simp only [ExL] at h
    cases hgd : gd ops st o with
    | run => rw [hgd] at h; exact run (.inl hgd) h
    | skip => rw [hgd] at h; exact fin _ (.skip (.inl hgd)) h
    | ask b want =>
      rw [hgd] at h
      by_cases e : b = want
      · subst e
        exact run (.inr ⟨_, hgd⟩) (h.1 (by simp))
      · exact fin _ (.skip (.inr ⟨_, _, hgd, e⟩)) (h.2 (by simpa using e))
    | lost => rw [hgd] at h; exact h.elim

theorem exit_then {next : Act → World → Prop} {Q : Exit → Act → World → Prop} {e : Exit} {a : Act} {w : World} (h1 : e = .normal → next a w) (h2 : e ≠ .normal → Q e a w) : Exit.then next Q e a w := by
  cases e <;> first | exact h1 rfl | exact h2 (by simp)

def Post (B : World) (R0 L : Nat → Prop) (N : Env) (Q : Exit → St → Prop) (e : Exit) (a : Act) (w : World) : Prop := ∃ st, Q e st ∧ Sim B R0 L N st a w

theorem cond_ok {st : St} {c : Operand} {b : Bool} (h : condOf st c = some b) (hg : Good B R0 L st V w) (hl : Link N V a) : a.eval c = .bool b := by
  unfold condOf at h
  split at h
  · rename_i b' hs
    injection h with h
    subst h
    have hlk : look st c = some ⟨.val .bool b', .dead⟩ := by simp [look, hs, aliasOf]
    exact vrep_bool (look_ok hg hl hlk).rep
  · cases h

/-! ### Any order -/
def sub (S : Nat → Bool) : Nat → List Ups → St → St
  | _, [], st => st
  | i, u :: us, st => sub S (i + 1) us (if S i = true then app u st else st)

theorem app_at {u : Ups} {st st' : St} {k : Nat} (h : st k = st' k) : app u st k = app u st' k := by
  induction u generalizing st st' with
  | nil => exact h
  | cons p u ih =>
    rw [app_cons, app_cons]
    refine ih ?_
    by_cases e : k = p.1
    · subst e; rw [put_same, put_same]
    · rw [put_ne _ _ e, put_ne _ _ e]; exact h

theorem app_key_at {u : Ups} {st st' : St} {k : Nat} (h : k ∈ keys u) : app u st k = app u st' k := by
  induction u generalizing st st' with
  | nil => simp [keys] at h
  | cons p u ih =>
    rw [app_cons, app_cons]
    by_cases e : k ∈ keys u
    · exact ih e
    · have : k = p.1 := by simpa [keys] using (List.mem_cons.1 (by simpa [keys] using h) : k = p.1 ∨ k ∈ u.map (·.1)).resolve_right (by simpa [keys] using e)
      subst this
      exact app_at (by rw [put_same, put_same])

theorem app_out {u : Ups} {st : St} {k : Nat} (h : k ∉ keys u) : app u st k = st k :=
  app_other (fun p hp e => h (by rw [← e]; exact List.mem_map_of_mem hp))

theorem sub_agree {S T : Nat → Bool} {k : Nat} : ∀ {us : List Ups} {i : Nat} {st st' : St}, (∀ j u, us[j]? = some u → S (i + j) ≠ T (i + j) → k ∉ keys u) → st k = st' k → sub S i us st k = sub T i us st' k
  | [], i, st, st', h, e => e
  | u :: us, i, st, st', h, e => by
    simp only [sub]
    refine sub_agree (fun j v hv hne => h (j + 1) v (by simpa using hv) (by rwa [show i + (j + 1) = i + 1 + j by omega])) ?_
    have h0 := h 0 u rfl
    simp only [Nat.add_zero] at h0
    cases hS : S i <;> cases hT : T i <;> simp only [if_true, if_false, Bool.false_eq_true] 
    · exact e
    · rw [app_out (h0 (by rw [hS, hT]; simp))]; exact e
    · rw [app_out (h0 (by rw [hS, hT]; simp))]; exact e
    · exact app_at e

/-- One more has run. -/
theorem sub_more {S : Nat → Bool} {us : List Ups} {st : St} {i : Nat} {u : Ups} (hu : us[i]? = some u) (hi : S i = false) (hd : ∀ j v, us[j]? = some v → i < j → S j = true → ∀ k ∈ keys u, k ∉ keys v) :
    sub (fun j => decide (j = i) || S j) 0 us st = app u (sub S 0 us st) := by
  have key : ∀ (us : List Ups) (b : Nat) (st : St) (u : Ups) (p : Nat), us[p]? = some u → b + p = i → (∀ j v, us[j]? = some v → p < j → S (b + j) = true → ∀ k ∈ keys u, k ∉ keys v) →
      sub (fun j => decide (j = i) || S j) b us st = app u (sub S b us st) := by
    intro us
    induction us with
    | nil => intro b st u p h; simp at h
    | cons x us ih =>
      intro b st u p hp hb hq
      simp only [sub]
      cases p with
      | zero =>
        simp only [List.getElem?_cons_zero, Option.some.injEq] at hp
        subst hp
        have hbi : b = i := by omega
        subst hbi
        simp only [decide_true, Bool.true_or, if_true, hi, Bool.false_eq_true, if_false]
        funext k
        by_cases hk : k ∈ keys x
        · rw [app_key_at (st' := st) hk]
          have : sub (fun j => decide (j = b) || S j) (b + 1) us (app x st) k = sub (fun _ => false) (b + 1) us (app x st) k := by
            refine sub_agree (fun j v hv hne => ?_) rfl
            refine hq (j + 1) v (by simpa using hv) (by omega) ?_ k hk
            have hne' : (decide (b + 1 + j = b) || S (b + 1 + j)) ≠ false := hne
            simp only [show ¬ (b + 1 + j = b) by omega, decide_false, Bool.false_or] at hne'
            rw [show b + (j + 1) = b + 1 + j by omega]
            simpa using hne'
          rw [this]
          have none_ : ∀ (us : List Ups) (b : Nat) (st : St), sub (fun _ => false) b us st = st := by
            intro us
            induction us with
            | nil => intro b st; rfl
            | cons x us ih => intro b st; simp only [sub, Bool.false_eq_true, if_false]; exact ih _ _
          rw [none_]
        · rw [app_out hk]
          refine sub_agree (fun j v hv hne => ?_) (app_out hk)
          exfalso
          apply hne
          simp only [show ¬ (b + 1 + j = b) by omega, decide_false, Bool.false_or]
      | succ p =>
        have hbi : ¬ (b = i) := by omega
        simp only [hbi, decide_false, Bool.false_or]
        refine ih (b + 1) _ u p (by simpa using hp) (by omega) (fun j v hv hj hS => ?_)
        exact hq (j + 1) v (by simpa using hv) (by omega) (by rwa [show b + (j + 1) = b + 1 + j by omega])
  exact key us 0 st u i hu (by omega) (by simpa using hd)

end
end Go.Tm
