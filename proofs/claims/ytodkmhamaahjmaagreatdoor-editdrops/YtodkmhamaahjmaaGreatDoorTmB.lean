/- Texts joined: TmCall, TmStamp, TmExec, TmOrder, TmBody, TmRule, TmRule2, TmRule3, TmRule4, TmRule5, TmRule6. -/
import Derived.Test.YtodkmhamaahjmaaGreatDoorTmA
import Derived.Orders
import Derived.WalkSpells
import Derived.Lib.SliceRun
/- Calls: what a function promises (ConOK), and that a call keeps a state as callT says. -/
set_option linter.unusedVariables false
set_option linter.unusedSimpArgs false
namespace Go.Tm

def argRep (w : World) (R : Nat → Prop) : Arg → Value → Prop
  | .val d, v => vrep w R d.1 d.2 v
  | .obj d, v => OwnP w R d.1 d.2 v
  | .ptr d, v => ∃ ad cs, v = .pointer (some ad) ∧ R ad.block ∧ ad.block < w.heap.size ∧ rep w R d.1 d.2 cs ∧ lies w ad cs
  | .row t xs, v => OwnS w R t xs v
  | .clo f l, v => ∃ vs, v = .func (.func f) #[] vs.toArray ∧ rptsRep w R l vs
  | .ask, _ => False

def argsRep (w : World) (R : Nat → Prop) : List Arg → List Value → Prop
  | [], vs => vs = []
  | x :: xs, vs => ∃ v r, vs = v :: r ∧ argRep w R x v ∧ argsRep w R xs r

def ioBlk : Arg → Value → Option Nat
  | .obj _, .pointer (some ad) => some ad.block
  | .row _ _, .slice (some ad) _ _ => some ad.block
  | _, _ => none

def rowBlk : Arg → Value → Option Nat
  | .row _ _, .slice (some ad) _ _ => some ad.block
  | _, _ => none

/-- The blocks of the rows that are given for good. -/
def rowBlks : List Arg → List Value → List Nat
  | x :: xs, v :: vs => (rowBlk x v).toList ++ rowBlks xs vs
  | _, _ => []

def ioBlks : List Arg → List Value → List Nat
  | x :: xs, v :: vs => (ioBlk x v).toList ++ ioBlks xs vs
  | _, _ => []

structure Ready (w : World) (R : Nat → Prop) (args : List Arg) (vals : List Value) : Prop where
  rep : argsRep w R args vals
  nodup : (ioBlks args vals).Nodup
  apart : ∀ b ∈ ioBlks args vals, ¬ R b

def iosRep (w : World) (R : Nat → Prop) : List Arg → List Value → List Dv → Prop
  | [], _, es => es = []
  | .obj _ :: xs, vs, es => ∃ v r e es', vs = v :: r ∧ es = e :: es' ∧ OwnP w R e.1 e.2 v ∧ iosRep w R xs r es'
  | .val _ :: xs, vs, es => ∃ v r, vs = v :: r ∧ iosRep w R xs r es
  | .ptr _ :: xs, vs, es => ∃ v r, vs = v :: r ∧ iosRep w R xs r es
  | .row _ _ :: xs, vs, es => ∃ v r, vs = v :: r ∧ iosRep w R xs r es
  | .clo _ _ :: xs, vs, es => ∃ v r, vs = v :: r ∧ iosRep w R xs r es
  | .ask :: xs, vs, es => ∃ v r, vs = v :: r ∧ iosRep w R xs r es

def resRep (w : World) (R : Nat → Prop) (r : Res) (v : Value) : Prop := SlotRep w R (fun _ => .dead) (fun _ => undef) (r.slot 0) v

/-- What may be read after a call: what could be read before it, and what is new (but for the result's own block). -/
def Rd (w : World) (R : Nat → Prop) (r : Res) (v : Value) (b : Nat) : Prop := ((R b ∧ b < w.heap.size) ∨ w.heap.size ≤ b) ∧ ownBlk (r.slot 0) v ≠ some b

structure After (w : World) (R : Nat → Prop) (args : List Arg) (vals : List Value) (out : Out) (v : Value) (w' : World) : Prop where
  kept : Kept w (fun b => b ∈ ioBlks args vals) w'
  fresh : ∀ b, ownBlk (out.res.slot 0) v = some b → w.heap.size ≤ b ∨ (isObj (out.res.slot 0) = false ∧ b ∈ rowBlks args vals)
  res : resRep w' (Rd w (fun b => R b ∨ b ∈ rowBlks args vals) out.res v) out.res v
  ios : iosRep w' (Rd w (fun b => R b ∨ b ∈ rowBlks args vals) out.res v) args vals out.ios

/-- How a call ends. -/
def ends (r : Res) (v : Value) : Ending :=
  match r with
  | .panic ch => .panicked ch
  | _ => .returned v

theorem ends_ret {r : Res} (h : r.isPanic = false) (v : Value) : ends r v = .returned v := by cases r <;> first | rfl | (simp [Res.isPanic] at h)

def Goes (P : Program) (f : FuncId) (vals : List Value) (w : World) (r : Res) (R : Value → World → Prop) : Prop :=
  (∃ g gs w1, (callFunc f vals.toArray).run P w = .ok (.enter g gs) w1 ∧ Calls P g gs w1 fun e w' => ∃ v, e = ends r v ∧ R v w') ∨
  (r.isPanic = false ∧ ∃ v w', (callFunc f vals.toArray).run P w = .ok (.value v) w' ∧ R v w')

def ConOK (P : Program) (f : FuncId) (con : Con) : Prop :=
  ∀ (args : List Arg) (out : Out) (vals : List Value) (w : World) (R : Nat → Prop), con args = some out → Ready w R args vals → Goes P f vals w out.res (After w R args vals out)

theorem Goes.mono {P : Program} {f : FuncId} {vals : List Value} {w : World} {r : Res} {R R' : Value → World → Prop} (h : Goes P f vals w r R) (hr : ∀ v w', R v w' → R' v w') : Goes P f vals w r R' := by
  rcases h with ⟨g, gs, w1, h1, h2⟩ | ⟨h0, v, w', h1, h2⟩
  · exact .inl ⟨g, gs, w1, h1, h2.mono fun e w' ⟨v, he, hv⟩ => ⟨v, he, hr _ _ hv⟩⟩
  · exact .inr ⟨h0, v, w', h1, hr _ _ h2⟩

/-! ### What leads nowhere stands in any world -/
theorem rep_near {w w' : World} {R R' : Nat → Prop} : ∀ (t : Ty) {x : t.den} {cs : List Value}, t.far = false → rep w R t x cs → rep w' R' t x cs
  | .int _, _, _, _, h => h
  | .bool, _, _, _, h => h
  | .str, _, _, _, h => h
  | .unit, _, _, _, h => h
  | .prod a b, _, _, hf, h => by
    simp only [Ty.far, Bool.or_eq_false_iff] at hf
    obtain ⟨c1, c2, rfl, h1, h2⟩ := h
    exact ⟨c1, c2, rfl, rep_near a hf.1 h1, rep_near b hf.2 h2⟩
  | .slice _, _, _, hf, _ => by cases hf
  | .arr n t, xs, _, hf, h => ⟨h.1, h.2.imp (fun x c _ hx => rep_near t hf hx)⟩

theorem tupRep_near {w w' : World} {R R' : Nat → Prop} : ∀ {l : List Dv} {vs : List Value}, l.any (·.1.far) = false → tupRep w R l vs → tupRep w' R' l vs
  | [], _, _, h => h
  | d :: l, _, hf, h => by
    simp only [List.any_cons, Bool.or_eq_false_iff] at hf
    obtain ⟨v, r, rfl, ⟨cs, h1, h1'⟩, h2⟩ := h
    exact ⟨v, r, rfl, ⟨cs, rep_near _ hf.1 h1, h1'⟩, tupRep_near hf.2 h2⟩

theorem resRep_turn {w : World} {R R' : Nat → Prop} {r : Res} {v : Value} (m : Nat) (st : St) (V : Nat → Value) (h : resRep w R r v) (hR : r.far = true → ∀ b, b < w.heap.size → R b → R' b) : SlotRep w R' st V (r.slot m) v := by
  have key : ∀ (t : Ty) (x : t.den) (cs : List Value), (t.far = true → r.far = true) → rep w R t x cs → rep w R' t x cs := by
    intro t x cs ht h
    cases hf : t.far with
    | false => exact rep_near t hf h
    | true => exact rep_mono (Nat.le_refl _) (hR (ht hf)) (fun _ _ _ => rfl) t h
  cases r with
  | unit => trivial
  | val d =>
    obtain ⟨cs, h, hv⟩ := h
    exact ⟨cs, key _ _ _ (fun h => h) h, hv⟩
  | own t xs =>
    obtain ⟨A, c, cs, hv, h1, h2, h3, h4⟩ := h
    exact ⟨A, c, cs, hv, h1, h2, h3.imp (fun x c _ hx => key _ _ _ (fun h => h) hx), h4⟩
  | obj t x =>
    obtain ⟨ad, cs, hv, h1, h2⟩ := h
    exact ⟨ad, cs, hv, key _ _ _ (fun h => h) h1, h2⟩
  | tup l =>
    obtain ⟨vs, hv, h1⟩ := h
    refine ⟨vs, hv, ?_⟩
    cases hf : (Res.tup l).far with
    | false => exact tupRep_near hf h1
    | true => exact tupRep_mono (Nat.le_refl _) (hR hf) (fun _ _ _ => rfl) h1
  | panic ch => trivial

theorem res_blk (r : Res) (m n : Nat) (v : Value) : ownBlk (r.slot m) v = ownBlk (r.slot n) v := by
  cases r with
  | own t xs => exact blk_own _ _ _ _ _
  | obj t x => exact blk_obj _ _ _ _ _
  | _ => rfl

/-! ### Arguments -/
structure LentOK (w : World) (R : Nat → Prop) (st : St) (V : Nat → Value) (x : Lent) (v : Value) : Prop where
  rep : argRep w R x.arg v
  lent : ∀ p, x.lent = some p → ∃ n t xs, st p.1 = .own n t xs ∧ p.2 = .val (.slice t) xs
  io : ∀ s n, x.io = some (s, n) → (∃ t y, x.arg = .obj ⟨t, y⟩ ∧ st s = .obj n t y ∧ v = V s) ∨ (∃ t xs, x.arg = .row t xs ∧ st s = .own n t xs ∧ v = V s)
  none : x.io = none → ioBlk x.arg v = none ∧ ∀ d, x.arg ≠ .obj d

inductive LentsOK (w : World) (R : Nat → Prop) (st : St) (V : Nat → Value) : List Lent → List Value → Prop
  | nil : LentsOK w R st V [] []
  | cons {x : Lent} {v : Value} {xs : List Lent} {vs : List Value} (h : LentOK w R st V x v) (r : LentsOK w R st V xs vs) : LentsOK w R st V (x :: xs) (v :: vs)

theorem argRep.mono {w : World} {R R' : Nat → Prop} {x : Arg} {v : Value} (h : argRep w R x v) (hR : ∀ b, b < w.heap.size → R b → R' b) : argRep w R' x v := by
  cases x with
  | val d => exact vrep_mono (Nat.le_refl _) hR (fun _ _ _ => rfl) h
  | obj d =>
    obtain ⟨ad, cs, hv, h1, h2⟩ := h
    exact ⟨ad, cs, hv, rep_mono (Nat.le_refl _) hR (fun _ _ _ => rfl) _ h1, h2⟩
  | ptr d =>
    obtain ⟨ad, cs, hv, h1, h2, h3, h4⟩ := h
    exact ⟨ad, cs, hv, hR _ h2 h1, h2, rep_mono (Nat.le_refl _) hR (fun _ _ _ => rfl) _ h3, h4⟩
  | row t xs =>
    obtain ⟨A, c, cs, hv, h1, h2, h3, h4⟩ := h
    exact ⟨A, c, cs, hv, h1, h2, h3.imp (fun x c _ hx => rep_mono (Nat.le_refl _) hR (fun _ _ _ => rfl) t hx), h4⟩
  | clo f l =>
    obtain ⟨vs, hv, h1⟩ := h
    exact ⟨vs, hv, h1.mono (Nat.le_refl _) hR (fun _ _ _ => rfl)⟩
  | ask => exact h

section
variable {P : Program} {tab : Tab} {Γ : Cons} {B : World} {R0 L : Nat → Prop} {st : St} {V : Nat → Value} {w : World} {N : Env} {a : Act} {o : Oper} {ups : Ups} {m : Nat} {ls : List Lk}

theorem arg_ok (hg : Good B R0 L st V w) {l : Lk} {v : Value} (h : LkOK (RO B R0 st V) st V w l v) {want : Option Ty} {x : Lent} (hx : toArg l want = some x) :
    ∃ u, u = x.lent.toList ∧ Frz st u ∧ LentOK w (RO B R0 (app u st) V) st V x v := by
  have hr := h.rep
  have ho := h.own
  have hz : ∀ d u, frz l want = some (d, u) → x = ⟨.val d, (match u with | p :: _ => some p | [] => none), none⟩ → ∃ u, u = x.lent.toList ∧ Frz st u ∧ LentOK w (RO B R0 (app u st) V) st V x v := by
    intro d u hf hxe
    obtain ⟨_, h2, h3⟩ := frz_ok hg h hf
    subst hxe
    rcases h3 with rfl | ⟨s, n, t, xs, rfl, hs⟩
    · exact ⟨[], rfl, fun p hp => by simp at hp, h2, (fun p hp => by cases hp), (fun s n hs => by cases hs), (fun _ => ⟨rfl, fun d hd => by cases hd⟩)⟩
    · refine ⟨[(s, .val (.slice t) xs)], rfl, fun p hp => ?_, h2, fun p hp => ?_, (fun s n hs => by cases hs), (fun _ => ⟨rfl, fun d hd => by cases hd⟩)⟩
      · simp only [List.mem_singleton] at hp
        subst hp
        exact .inl ⟨n, t, xs, hs, rfl⟩
      · injection hp with hp
        subst hp
        exact ⟨n, t, xs, hs, rfl⟩
  obtain ⟨s, c⟩ := l
  simp only at hr ho
  unfold toArg at hx
  simp only at hx
  split at hx
  · injection hx with hx
    exact hz _ _ rfl hx.symm
  · split at hx
    · injection hx with hx
      exact hz _ _ rfl hx.symm
    · cases hx
  · split at hx
    · rename_i hn
      subst hn
      injection hx with hx
      exact hz _ _ (by simp only [frz, if_true]; rfl) hx.symm
    · cases hx
  · split at hx
    · rename_i hn
      subst hn
      injection hx with hx
      exact hz _ _ (by simp only [frz, if_true]; rfl) hx.symm
    · cases hx
  · rename_i n k n' t y
    split at hx
    · rename_i hn
      subst hn
      injection hx with hx
      subst hx
      have hk := ho n k rfl
      obtain ⟨ad, hV, hv⟩ := hr.1 _ _ hk.symm
      have hkr := hg.rep k
      rw [← hk] at hkr
      have h00 : offs t [] = 0 := by cases t <;> rfl
      rw [h00, add_zero, ← hV] at hv
      refine ⟨[], rfl, fun p hp => by simp at hp, ?_, (fun p hp => by cases hp), ?_, (fun e => by cases e)⟩
      · rw [hv]; exact hkr
      · intro s n' hs
        injection hs with hs
        injection hs with e1 e2
        subst e1 e2
        exact .inl ⟨t, y, rfl, hk.symm, hv⟩
    · cases hx
  · injection hx with hx
    subst hx
    exact ⟨[], rfl, fun p hp => by simp at hp, hr, (fun p hp => by cases hp), (fun s n hs => by cases hs), (fun _ => ⟨rfl, fun d hd => by cases hd⟩)⟩
  · injection hx with hx
    subst hx
    exact ⟨[], rfl, fun p hp => by simp at hp, hr, (fun p hp => by cases hp), (fun s n hs => by cases hs), (fun _ => ⟨rfl, fun d hd => by cases hd⟩)⟩
  · cases hx

theorem argR_ok (hg : Good B R0 L st V w) {l : Lk} {v : Value} (h : LkOK (RO B R0 st V) st V w l v) {want : Option Ty} {x : Lent} (hx : toArgR l want = some x) :
    ∃ u, u = x.lent.toList ∧ Frz st u ∧ LentOK w (RO B R0 (app u st) V) st V x v := by
  unfold toArgR at hx
  split at hx
  · rename_i n k n' t xs e1 e2
    split at hx
    · rename_i hn
      subst hn
      injection hx with hx
      subst hx
      have hr := h.rep
      have ho := h.own
      rw [e1] at hr
      have hk := ho n k (by rw [e1]; rfl)
      rw [e2] at hk
      have hv := hr _ _ hk.symm
      have hkr := hg.rep k
      rw [← hk] at hkr
      refine ⟨[], rfl, fun p hp => by simp at hp, ?_, (fun p hp => by cases hp), ?_, (fun e => by cases e)⟩
      · rw [hv]; exact hkr
      · intro s n' hs
        injection hs with hs
        injection hs with e1 e2
        subst e1 e2
        exact .inr ⟨t, xs, rfl, hk.symm, hv⟩
    · cases hx
  · rename_i e1
    split at hx
    · rename_i t
      injection hx with hx
      subst hx
      have hr := h.rep
      rw [e1] at hr
      have hv : v = .slice none 0 0 := hr
      subst hv
      refine ⟨[], rfl, fun p hp => by simp at hp, ⟨none, 0, [], rfl, Nat.le_refl _, Nat.zero_le _, rfl, .inl ⟨rfl, rfl⟩⟩, (fun p hp => by cases hp), (fun s n hs => by cases hs), (fun _ => ⟨rfl, fun d hd => by cases hd⟩)⟩
    · cases hx
  · exact arg_ok hg h hx

theorem LentsOK.mono {R R' : Nat → Prop} {as : List Lent} {vs : List Value} (h : LentsOK w R st V as vs) (hR : ∀ b, b < w.heap.size → R b → R' b) : LentsOK w R' st V as vs := by
  induction h with
  | nil => exact .nil
  | cons h _ ih => exact .cons ⟨h.rep.mono hR, h.lent, h.io, h.none⟩ ih

theorem args_ok (hg : Good B R0 L st V w) (hl : Link N V a) : ∀ {xs : List Operand} {ls : List Lk} {ws : List (Option Ty)} {as : List Lent}, looks st xs = some ls → toArgs ls ws = some as →
    Frz st (lentsOf as) ∧ LentsOK w (RO B R0 (app (lentsOf as) st) V) st V as (xs.map a.eval)
  | [], ls, ws, as, h1, h2 => by
    simp only [looks, Option.some.injEq] at h1
    subst h1
    simp only [toArgs, Option.some.injEq] at h2
    subst h2
    exact ⟨fun p hp => by simp [lentsOf] at hp, .nil⟩
  | x :: xs, ls, ws, as, h1, h2 => by
    simp only [looks] at h1
    split at h1
    · rename_i l ls' e1 e2
      injection h1 with h1
      subst h1
      simp only [toArgs] at h2
      split at h2
      · rename_i d ds e3 e4
        injection h2 with h2
        subst h2
        obtain ⟨f1, f2⟩ := args_ok hg hl e2 e4
        obtain ⟨u, hu, g1, g2⟩ := arg_ok hg (look_ok hg hl e1) e3
        have hL : lentsOf (d :: ds) = u ++ lentsOf ds := by
          rw [hu]
          simp only [lentsOf, List.filterMap_cons]
          cases d.lent <;> rfl
        have hall : Frz st (u ++ lentsOf ds) := by
          intro p hp
          rcases List.mem_append.1 hp with hp | hp
          · exact g1 p hp
          · exact f1 p hp
        rw [hL]
        have hlow : ∀ p ∈ u ++ lentsOf ds, owning p.2 = false := fun p hp => (hall.low p hp).1
        refine ⟨hall, .cons ⟨g2.rep.mono ?_, g2.lent, g2.io, g2.none⟩ (f2.mono ?_)⟩
        · exact fun b _ hb => RO_app (fun p hp => List.mem_append_left _ hp) hlow b hb
        · exact fun b _ hb => RO_app (fun p hp => List.mem_append_right _ hp) hlow b hb
      · cases h2
    · cases h1


theorem argsR_ok (hg : Good B R0 L st V w) (hl : Link N V a) : ∀ {xs : List Operand} {ls : List Lk} {ws : List (Option Ty)} {as : List Lent}, looks st xs = some ls → toArgsR ls ws = some as →
    Frz st (lentsOf as) ∧ LentsOK w (RO B R0 (app (lentsOf as) st) V) st V as (xs.map a.eval)
  | [], ls, ws, as, h1, h2 => by
    simp only [looks, Option.some.injEq] at h1
    subst h1
    simp only [toArgsR, Option.some.injEq] at h2
    subst h2
    exact ⟨fun p hp => by simp [lentsOf] at hp, .nil⟩
  | x :: xs, ls, ws, as, h1, h2 => by
    simp only [looks] at h1
    split at h1
    · rename_i l ls' e1 e2
      injection h1 with h1
      subst h1
      simp only [toArgsR] at h2
      split at h2
      · rename_i d ds e3 e4
        injection h2 with h2
        subst h2
        obtain ⟨f1, f2⟩ := argsR_ok hg hl e2 e4
        obtain ⟨u, hu, g1, g2⟩ := argR_ok hg (look_ok hg hl e1) e3
        have hL : lentsOf (d :: ds) = u ++ lentsOf ds := by
          rw [hu]
          simp only [lentsOf, List.filterMap_cons]
          cases d.lent <;> rfl
        have hall : Frz st (u ++ lentsOf ds) := by
          intro p hp
          rcases List.mem_append.1 hp with hp | hp
          · exact g1 p hp
          · exact f1 p hp
        rw [hL]
        have hlow : ∀ p ∈ u ++ lentsOf ds, owning p.2 = false := fun p hp => (hall.low p hp).1
        refine ⟨hall, .cons ⟨g2.rep.mono ?_, g2.lent, g2.io, g2.none⟩ (f2.mono ?_)⟩
        · exact fun b _ hb => RO_app (fun p hp => List.mem_append_left _ hp) hlow b hb
        · exact fun b _ hb => RO_app (fun p hp => List.mem_append_right _ hp) hlow b hb
      · cases h2
    · cases h1


theorem argsM_ok (hg : Good B R0 L st V w) (hl : Link N V a) {b : Bool} {xs : List Operand} {ls : List Lk} {ws : List (Option Ty)} {as : List Lent} (h1 : looks st xs = some ls) (h2 : toArgsM b ls ws = some as) :
    Frz st (lentsOf as) ∧ LentsOK w (RO B R0 (app (lentsOf as) st) V) st V as (xs.map a.eval) := by
  unfold toArgsM at h2
  split at h2
  · exact argsR_ok hg hl h1 h2
  · exact args_ok hg hl h1 h2

theorem contains_iff {l : List Nat} {a : Nat} : l.contains a = false ↔ a ∉ l := by simp

theorem nodup_iff : ∀ {l : List Nat}, nodup l = true → l.Nodup
  | [], _ => List.nodup_nil
  | a :: l, h => by
    simp only [nodup, Bool.and_eq_true, Bool.not_eq_true', contains_iff] at h
    exact List.nodup_cons.2 ⟨h.1, nodup_iff h.2⟩

theorem LentOK.blk {R : Nat → Prop} {x : Lent} {v : Value} (h : LentOK w R st V x v) {s n : Nat} (hio : x.io = some (s, n)) : ioBlk x.arg v = ownBlk (st s) (V s) := by
  rcases h.io s n hio with ⟨t, y, h1, h2, h3⟩ | ⟨t, y, h1, h2, h3⟩
  · rw [h1, h2, h3]
    cases V s <;> try rfl
    rename_i A
    cases A <;> rfl
  · rw [h1, h2, h3]
    cases V s <;> try rfl
    rename_i A _ _
    cases A <;> rfl

theorem ioBlks_mem (hg : Good B R0 L st V w) {R : Nat → Prop} {as : List Lent} {vs : List Value} (h : LentsOK w R st V as vs) (b : Nat) : b ∈ ioBlks (as.map (·.arg)) vs ↔ ∃ s ∈ iosOf as, ownBlk (st s) (V s) = some b := by
  induction h with
  | nil => simp [ioBlks, iosOf]
  | @cons x v xs vs h r ih =>
    simp only [List.map_cons, ioBlks, List.mem_append, ih, iosOf, List.filterMap_cons]
    cases hio : x.io with
    | none =>
      have : ioBlk x.arg v = none := (h.none hio).1
      simp [ioOf, hio, this]
    | some p =>
      obtain ⟨s, n⟩ := p
      have : ioBlk x.arg v = ownBlk (st s) (V s) := h.blk hio
      simp [ioOf, hio, this]

theorem ioBlks_nodup (hg : Good B R0 L st V w) {R : Nat → Prop} {as : List Lent} {vs : List Value} (h : LentsOK w R st V as vs) (hn : (iosOf as).Nodup) : (ioBlks (as.map (·.arg)) vs).Nodup := by
  induction h with
  | nil => simp [ioBlks]
  | @cons x v xs vs h r ih =>
    simp only [List.map_cons, ioBlks]
    cases hio : x.io with
    | none =>
      have : ioBlk x.arg v = none := (h.none hio).1
      simp only [this, Option.toList_none, List.nil_append]
      simp only [iosOf, List.filterMap_cons, ioOf, hio, Option.map_none] at hn
      exact ih hn
    | some p =>
      obtain ⟨s, n⟩ := p
      have hb : ioBlk x.arg v = ownBlk (st s) (V s) := h.blk hio
      simp only [iosOf, List.filterMap_cons, ioOf, hio, Option.map_some, List.nodup_cons] at hn
      rw [hb]
      cases ho : ownBlk (st s) (V s) with
      | none => simpa using ih hn.2
      | some b =>
        simp only [Option.toList_some, List.singleton_append, List.nodup_cons]
        refine ⟨fun hm => ?_, ih hn.2⟩
        obtain ⟨s', hs', hb'⟩ := (ioBlks_mem hg r b).1 hm
        have := hg.sep _ _ _ ho hb'
        subst this
        exact hn.1 hs'

/-- The block of a row that is given is its slot's own. -/
theorem rowBlks_mem {R : Nat → Prop} {as : List Lent} {vs : List Value} (h : LentsOK w R st V as vs) (b : Nat) (hb : b ∈ rowBlks (as.map (·.arg)) vs) : ∃ s ∈ iosOf as, ownBlk (st s) (V s) = some b ∧ isObj (st s) = false := by
  induction h with
  | nil => simp [rowBlks] at hb
  | @cons x v xs vs h r ih =>
    simp only [List.map_cons, rowBlks, List.mem_append] at hb
    have up : (∃ s ∈ iosOf xs, ownBlk (st s) (V s) = some b ∧ isObj (st s) = false) → ∃ s ∈ iosOf (x :: xs), ownBlk (st s) (V s) = some b ∧ isObj (st s) = false := by
      rintro ⟨s, hs, h2⟩
      refine ⟨s, ?_, h2⟩
      simp only [iosOf, List.filterMap_cons]
      cases ioOf x with
      | none => exact hs
      | some _ => exact List.mem_cons_of_mem _ hs
    rcases hb with hb | hb
    · have hbb : rowBlk x.arg v = some b := by simpa using hb
      have hib : ioBlk x.arg v = some b ∧ ∃ t xs, x.arg = .row t xs := by
        revert hbb
        cases x.arg <;> simp only [rowBlk, ioBlk] <;> first | (intro h; cases h; done) | skip
        rename_i t ys
        intro h
        split at h
        · exact ⟨h, t, ys, rfl⟩
        · cases h
      cases hio : x.io with
      | none => rw [(h.none hio).1] at hib; cases hib.1
      | some p =>
        obtain ⟨s, n⟩ := p
        refine ⟨s, by simp [iosOf, ioOf, hio], ?_, ?_⟩
        · rw [← h.blk hio]; exact hib.1
        · obtain ⟨_, t, ys, ht⟩ := hib
          rcases h.io s n hio with ⟨t', y, h1, h2, h3⟩ | ⟨t', y, h1, h2, h3⟩
          · rw [h1] at ht; cases ht
          · rw [h2]; rfl
    · exact up (ih hb)

theorem ioUps_at {w' : World} {R R' : Nat → Prop} {st0 : St} : ∀ {as : List Lent} {vs : List Value} {ds : List Dv} {u : Ups} {st : St}, LentsOK w R st0 V as vs → ioUps as ds = some u → iosRep w' R' (as.map (·.arg)) vs ds → (iosOf as).Nodup →
    (∀ k, k ∉ iosOf as → app u st k = st k) ∧ (∀ k ∈ iosOf as, (∃ n t x x', app u st k = .obj n t x ∧ OwnP w' R' t x (V k) ∧ st0 k = .obj n t x' ∧ (t.far = true → ds.any (·.1.far) = true)) ∨
      (app u st k = .dead ∧ isObj (st0 k) = false))
  | [], vs, ds, u, st, h, hu, hr, hn => by
    cases ds with
    | nil =>
      simp only [ioUps, Option.some.injEq] at hu
      subst hu
      exact ⟨fun k _ => rfl, fun k hk => by simp [iosOf] at hk⟩
    | cons d ds => simp [ioUps] at hu
  | x :: as, vs, ds, u, st, h, hu, hr, hn => by
    cases h with
    | @cons _ v _ vs h r =>
    simp only [ioUps] at hu
    split at hu
    · rename_i hio
      have e : iosOf (x :: as) = iosOf as := by simp [iosOf, ioOf, hio]
      rw [e] at hn ⊢
      have hr' : iosRep w' R' (as.map (·.arg)) vs ds := by
        have := (h.none hio).2
        simp only [List.map_cons] at hr
        cases ha : x.arg with
        | val d => rw [ha] at hr; obtain ⟨v', r', he, h'⟩ := hr; injection he with e1 e2; subst e2; exact h'
        | ptr d => rw [ha] at hr; obtain ⟨v', r', he, h'⟩ := hr; injection he with e1 e2; subst e2; exact h'
        | row t xs => rw [ha] at hr; obtain ⟨v', r', he, h'⟩ := hr; injection he with e1 e2; subst e2; exact h'
        | clo f l => rw [ha] at hr; obtain ⟨v', r', he, h'⟩ := hr; injection he with e1 e2; subst e2; exact h'
        | ask => rw [ha] at hr; obtain ⟨v', r', he, h'⟩ := hr; injection he with e1 e2; subst e2; exact h'
        | obj d => exact absurd ha (this d)
      exact ioUps_at r hu hr' hn
    · rename_i s n hio
      have e : iosOf (x :: as) = s :: iosOf as := by simp [iosOf, ioOf, hio]
      rw [e] at hn ⊢
      obtain ⟨hn1, hn2⟩ := List.nodup_cons.1 hn
      rcases h.io s n hio with ⟨t, y, h1, h2, h3⟩ | ⟨t, y, h1, h2, h3⟩
      · rw [h1] at hu
        simp only at hu
        split at hu
        · rename_i d ds
          split at hu
          case isFalse => cases hu
          rename_i hty
          simp only [Arg.ty] at hty
          simp only [Option.map_eq_some_iff] at hu
          obtain ⟨u', hu', rfl⟩ := hu
          simp only [List.map_cons, h1] at hr
          obtain ⟨v', r', e', es', hv, he, hp, hr'⟩ := hr
          injection hv with hv1 hv2
          injection he with he1 he2
          subst hv1 hv2 he1 he2
          obtain ⟨g1, g2⟩ := ioUps_at (st := Tm.put st s (.obj n d.1 d.2)) r hu' hr' hn2
          refine ⟨fun k hk => ?_, fun k hk => ?_⟩
          · simp only [List.mem_cons, not_or] at hk
            rw [app_cons, g1 k hk.2, put_ne _ _ hk.1]
          · rcases List.mem_cons.1 hk with rfl | hk
            · refine .inl ⟨n, d.1, d.2, hty ▸ y, ?_, by rw [← h3]; exact hp, by rw [h2]; clear h1 h2 hp; subst hty; rfl, fun hf => by simp [hf]⟩
              rw [app_cons, g1 _ hn1, put_same]
            · rcases g2 k hk with ⟨n', t', x', x'', g3, g4, g5, g6⟩ | ⟨g3, g4⟩
              · exact .inl ⟨n', t', x', x'', by rw [app_cons]; exact g3, g4, g5, fun hf => by simp [g6 hf]⟩
              · exact .inr ⟨by rw [app_cons]; exact g3, g4⟩
        · cases hu
      · rw [h1] at hu
        simp only [Option.map_eq_some_iff] at hu
        obtain ⟨u', hu', rfl⟩ := hu
        simp only [List.map_cons, h1] at hr
        obtain ⟨v', r', hv, hr'⟩ := hr
        injection hv with hv1 hv2
        subst hv1 hv2
        obtain ⟨g1, g2⟩ := ioUps_at (st := Tm.put st s .dead) r hu' hr' hn2
        refine ⟨fun k hk => ?_, fun k hk => ?_⟩
        · simp only [List.mem_cons, not_or] at hk
          rw [app_cons, g1 k hk.2, put_ne _ _ hk.1]
        · rcases List.mem_cons.1 hk with rfl | hk
          · exact .inr ⟨by rw [app_cons, g1 _ hn1, put_same], by rw [h2]; rfl⟩
          · rcases g2 k hk with ⟨n', t', x', x'', g3, g4, g5, g6⟩ | ⟨g3, g4⟩
            · exact .inl ⟨n', t', x', x'', by rw [app_cons]; exact g3, g4, g5, g6⟩
            · exact .inr ⟨by rw [app_cons]; exact g3, g4⟩

theorem app_other {u : Ups} {k : Nat} (h : ∀ p ∈ u, p.1 ≠ k) : ∀ {st : St}, app u st k = st k := by
  induction u with
  | nil => intro st; rfl
  | cons p u ih =>
    intro st
    rw [app_cons, ih (fun q hq => h q (by simp [hq])), put_ne _ _ (Ne.symm (h p (by simp)))]

theorem lents_rep {R : Nat → Prop} {as : List Lent} {vs : List Value} (h : LentsOK w R st V as vs) : argsRep w R (as.map (·.arg)) vs := by
  induction h with
  | nil => rfl
  | cons h r ih => exact ⟨_, _, rfl, h.rep, ih⟩

/-- A call that goes as it promised keeps the state. -/
theorem call_keeps (hg : Good B R0 L st V w) (hf : Fresh m st) {as : List Lent} {vs : List Value} {out : Out} {d : Option Tmp} (hfz : Frz st (lentsOf as)) (hls : LentsOK w (RO B R0 (app (lentsOf as) st) V) st V as vs)
    (c1 : nodup (iosOf as) = true) (c2 : ((lentsOf as).all fun l => !(iosOf as).contains l.1) = true) (c3 : dstFree d (iosOf as) = true) :
    Ready w (RO B R0 (app (lentsOf as) st) V) (as.map (·.arg)) vs ∧ ∀ u, ioUps as out.ios = some u → ∀ v w', After w (RO B R0 (app (lentsOf as) st) V) (as.map (·.arg)) vs out v w' →
      Good B R0 L (app ((if out.far = true then lentsOf as else []) ++ u ++ dstUps d (out.res.slot m)) st) (putO V d v) w' := by
      have hnd := nodup_iff c1
      have hlen : ∀ p ∈ lentsOf as, p.1 ∉ iosOf as := by
        intro p hp
        have := List.all_eq_true.1 c2 p hp
        simpa using this
      have hkeep : ∀ k, k ∈ iosOf as → app (lentsOf as) st k = st k := fun k hk => app_other (fun p hp e => hlen p hp (e ▸ hk))
      have hready : Ready w (RO B R0 (app (lentsOf as) st) V) (as.map (·.arg)) vs := by
        refine ⟨?_, ioBlks_nodup hg hls hnd, fun b hb hro => ?_⟩
        · exact lents_rep hls
        · obtain ⟨s, hs, hb'⟩ := (ioBlks_mem hg hls b).1 hb
          exact hro.2 s (by rw [hkeep s hs]; exact hb')
      refine ⟨hready, fun u hu v w' haf => ?_⟩
      -- the state in which the call begins
      generalize hst1 : app (if out.far = true then lentsOf as else []) st = st1
      have hg1 : Good B R0 L st1 V w := by
        rw [← hst1]
        split
        · exact hg.frz hfz
        · exact hg
      have hf1 : Fresh m st1 := by
        rw [← hst1]
        split
        · exact hf.app (fun p hp => (hfz.low p hp).2)
        · exact hf
      have hro1 : ∀ b, RO B R0 st1 V b → RO B R0 (app (lentsOf as) st) V b := by
        rw [← hst1]
        split
        · exact fun b h => h
        · exact fun b h => RO_app (u := []) (fun p hp => by simp at hp) (fun p hp => (hfz.low p hp).1) b h
      have hro2 : out.far = true → ∀ b, RO B R0 (app (lentsOf as) st) V b → RO B R0 st1 V b := by
        intro hfar
        rw [← hst1, if_pos hfar]
        exact fun b h => h
      have hio1 : ∀ k ∈ iosOf as, st1 k = st k := by
        intro k hk
        rw [← hst1]
        split
        · exact hkeep k hk
        · rfl
      obtain ⟨g1, g2⟩ := ioUps_at (st := st1) hls hu haf.ios hnd
      have hdk : ∀ d', d = some d' → d' ∉ iosOf as := by
        intro d' e
        subst e
        simpa [dstFree] using c3
      have happ : app ((if out.far = true then lentsOf as else []) ++ u ++ dstUps d (out.res.slot m)) st = putO (app u st1) d (out.res.slot m) := by
        rw [app_append, app_append, hst1]
        cases d <;> rfl
      show Good B R0 L (app ((if out.far = true then lentsOf as else []) ++ u ++ dstUps d (out.res.slot m)) st) (putO V d v) w'
      rw [happ]
      generalize hst2 : putO (app u st1) d (out.res.slot m) = st2
      have k1 : ∀ k, (∀ d', d = some d' → k ≠ d') → st2 k = app u st1 k ∧ putO V d v k = V k := by
        intro k hk
        rw [← hst2]
        cases d with
        | none => exact ⟨rfl, rfl⟩
        | some d => exact ⟨put_ne _ _ (hk d rfl), put_ne _ _ (hk d rfl)⟩
      have k2 : ∀ d', d = some d' → st2 d' = out.res.slot m ∧ putO V d v d' = v := by
        intro d' e
        subst e
        rw [← hst2]
        exact ⟨put_same _ _ _, put_same _ _ _⟩
      have hRd : ∀ {b}, b < w.heap.size → RO B R0 (app (lentsOf as) st) V b → ∀ k, st2 k = st2 k := fun _ _ _ => rfl
      refine hg1.change (fun k => k ∈ iosOf as ∨ d = some k) haf.kept.os haf.kept.tape haf.kept.output haf.kept.size (fun b hb hk => ?_) (fun k hk => ?_) ?_ ?_ ?_ ?_
      · refine haf.kept.block b hb (fun hm => ?_)
        obtain ⟨s, hs, hb'⟩ := (ioBlks_mem hg hls b).1 hm
        exact hk s (.inl hs) (by rw [hio1 s hs]; exact hb')
      · simp only [not_or] at hk
        obtain ⟨e1, e2⟩ := k1 k (fun d' e e' => hk.2 (e' ▸ e))
        rw [e1, e2, g1 k hk.1]
        exact ⟨rfl, rfl⟩
      · intro hR k hk
        -- what may be read after the call
        have hread : out.far = true → ∀ b, b < w'.heap.size → Rd w (fun b => RO B R0 (app (lentsOf as) st) V b ∨ b ∈ rowBlks (as.map (·.arg)) vs) out.res v b → RO B R0 st2 (putO V d v) b := by
          intro hfar b hb ⟨h, hne⟩
          -- none of the slots that live on owns it, but the result
          have hno : (∀ k', k' ∉ iosOf as → ownBlk (st1 k') (V k') ≠ some b) → (∀ k' n t x x', k' ∈ iosOf as → app u st1 k' = .obj n t x → st k' = .obj n t x' → ownBlk (st k') (V k') ≠ some b) → ∀ k', ownBlk (st2 k') (putO V d v k') ≠ some b := by
            intro n1 n2 k' hk'
            by_cases hd : d = some k'
            · obtain ⟨e1, e2⟩ := k2 k' hd
              rw [e1, e2, res_blk _ m 0] at hk'
              exact hne hk'
            · obtain ⟨e1, e2⟩ := k1 k' (fun d' e e' => hd (e' ▸ e))
              rw [e1, e2] at hk'
              by_cases hi : k' ∈ iosOf as
              · rcases g2 k' hi with ⟨n, t, x, x', q1, q2, q3, _⟩ | ⟨q1, _⟩
                · rw [q1] at hk'
                  exact n2 k' n t x x' hi q1 q3 (by rw [q3, ← hk']; exact blk_obj _ _ _ _ _)
                · rw [q1] at hk'
                  cases hk'
              · rw [g1 k' hi] at hk'
                exact n1 k' hi hk'
          rcases h with ⟨h1 | h1, h2⟩ | h1
          · exact hR b h2 (hro2 hfar b h1)
          · obtain ⟨s0, hs0, hb0, ho0⟩ := rowBlks_mem hls b h1
            have hm0 := hg.mine s0 b hb0
            refine ⟨?_, hno (fun k' hi hk' => ?_) fun k' n t x x' hi q1 q3 hk' => ?_⟩
            · rcases hm0 with ⟨_, ⟨h5, _⟩ | ⟨_, h5⟩⟩ | h5
              · rw [ho0] at h5; cases h5
              · exact .inl h5
              · exact .inr h5
            · have := hg1.sep _ _ _ hk' (by rw [hio1 s0 hs0]; exact hb0)
              subst this
              exact hi hs0
            · have := hg.sep _ _ _ hk' hb0
              subst this
              rw [q3] at ho0
              cases ho0
          · refine ⟨.inr (Nat.le_trans hg.kept.size h1), hno (fun k' hi hk' => ?_) fun k' n t x x' hi q1 q3 hk' => ?_⟩
            · have := ownBlk_lt (hg1.rep k') hk'
              omega
            · have := ownBlk_lt (hg.rep k') hk'
              omega
        by_cases hd : d = some k
        · obtain ⟨e1, e2⟩ := k2 k hd
          rw [e1, e2]
          exact resRep_turn m _ _ haf.res (fun hfar => hread (by simp [Out.far, hfar]))
        · obtain ⟨e1, e2⟩ := k1 k (fun d' e e' => hd (e' ▸ e))
          have hi : k ∈ iosOf as := hk.resolve_right hd
          rcases g2 k hi with ⟨n, t, x, x', q1, ⟨ad, cs, hv, q2, q2'⟩, q3, q4⟩ | ⟨q1, _⟩
          case inr => rw [e1, q1]; trivial
          rw [e1, e2, q1]
          refine ⟨ad, cs, hv, ?_, q2'⟩
          cases hf : t.far with
          | false => exact rep_near t hf q2
          | true => exact rep_mono (Nat.le_refl _) (hread (by simp [Out.far, q4 hf])) (fun _ _ _ => rfl) t q2
      · intro k b hk hb
        by_cases hd : d = some k
        · obtain ⟨e1, e2⟩ := k2 k hd
          rw [e1, e2, res_blk _ m 0] at hb
          rcases haf.fresh b hb with h5 | ⟨h5, h6⟩
          · exact .inl h5
          · obtain ⟨s0, hs0, hb0, ho0⟩ := rowBlks_mem hls b h6
            refine .inr ⟨s0, .inl hs0, by rw [hio1 s0 hs0]; exact hb0, ?_, fun h7 => ?_⟩
            · rw [hio1 s0 hs0, ho0, e1]
              rw [← h5]
              cases out.res <;> rfl
            · rw [hio1 s0 hs0, ho0] at h7; cases h7
        · obtain ⟨e1, e2⟩ := k1 k (fun d' e e' => hd (e' ▸ e))
          have hi : k ∈ iosOf as := hk.resolve_right hd
          rcases g2 k hi with ⟨n, t, x, x', q1, q2, q3, q4⟩ | ⟨q1, _⟩
          case inr => rw [e1, q1] at hb; cases hb
          rw [e1, e2, q1] at hb
          refine .inr ⟨k, .inl hi, ?_, ?_, fun _ h => h⟩
          · rw [hio1 k hi, q3, ← hb]
            exact blk_obj _ _ _ _ _
          · rw [e1, q1, hio1 k hi, q3]
            rfl
      · intro i j b hi hj h1 h2
        have old : ∀ k, (k ∈ iosOf as ∨ d = some k) → d ≠ some k → ownBlk (st2 k) (putO V d v k) = some b → k ∈ iosOf as ∧ ownBlk (st k) (V k) = some b ∧ b < w.heap.size ∧ isObj (st k) = true := by
          intro k hk hd hb
          obtain ⟨e1, e2⟩ := k1 k (fun d' e e' => hd (e' ▸ e))
          have hi : k ∈ iosOf as := hk.resolve_right hd
          rcases g2 k hi with ⟨n, t, x, x', q1, q2, q3, q4⟩ | ⟨q1, _⟩
          case inr => rw [e1, q1] at hb; cases hb
          rw [e1, e2, q1] at hb
          have : ownBlk (st k) (V k) = some b := by rw [q3, ← hb]; exact blk_obj _ _ _ _ _
          exact ⟨hi, this, ownBlk_lt (hg.rep k) this, by rw [q3]; rfl⟩
        have new : ∀ k k', d = some k → ownBlk (st2 k) (putO V d v k) = some b → k' ∈ iosOf as → ownBlk (st k') (V k') = some b → b < w.heap.size → isObj (st k') = true → False := by
          intro k k' hd hb hi' hb' hlt ho'
          obtain ⟨e1, e2⟩ := k2 k hd
          rw [e1, e2, res_blk _ m 0] at hb
          rcases haf.fresh b hb with h5 | ⟨h5, h6⟩
          · omega
          · obtain ⟨s0, hs0, hb0, ho0⟩ := rowBlks_mem hls b h6
            have := hg.sep _ _ _ hb' hb0
            subst this
            rw [ho0] at ho'; cases ho'
        by_cases d1 : d = some i <;> by_cases d2 : d = some j
        · rw [d1] at d2; injection d2
        · obtain ⟨o1, o2, o3, o4⟩ := old j hj d2 h2
          exact (new i j d1 h1 o1 o2 o3 o4).elim
        · obtain ⟨o1, o2, o3, o4⟩ := old i hi d1 h1
          exact (new j i d2 h2 o1 o2 o3 o4).elim
        · exact hg.sep _ _ _ (old i hi d1 h1).2.1 (old j hj d2 h2).2.1
      · intro k n s hk hs ha
        by_cases hd : d = some s
        · obtain ⟨e1, e2⟩ := k2 s hd
          rw [e1]
          have hm := hf1 k n s ha
          refine ⟨fun t xs h => ?_, fun t x h => ?_⟩ <;>
          · exfalso
            cases hr : out.res <;> rw [hr] at h <;> simp only [Res.slot] at h <;> first
              | (injection h with h; exact hm h.symm)
              | (cases h; done)
        · obtain ⟨e1, e2⟩ := k1 s (fun d' e e' => hd (e' ▸ e))
          have hi : s ∈ iosOf as := hs.resolve_right hd
          rcases g2 s hi with ⟨n', t, x, x', q1, q2, q3, q4⟩ | ⟨q1, _⟩
          case inr =>
            rw [e1, q1]
            exact ⟨(fun t xs h => by cases h), fun t x h => by cases h⟩
          rw [e1, e2, q1]
          refine ⟨(fun t xs h => by cases h), fun t x h => ⟨rfl, ?_⟩⟩
          injection h with h h'
          subst h h'
          exact ⟨x', by rw [hio1 s hi]; exact q3⟩

theorem call_kept (hg : Good B R0 L st V w) (hf : Fresh m st) {as : List Lent} {vs : List Value} {con : Con} {out : Out} {d : Option Tmp} (hfz : Frz st (lentsOf as)) (hls : LentsOK w (RO B R0 (app (lentsOf as) st) V) st V as vs)
    (hc : con (as.map (·.arg)) = some out) (ht : callT con d m as = some ups) :
    out.res.isPanic = false ∧ Ready w (RO B R0 (app (lentsOf as) st) V) (as.map (·.arg)) vs ∧ ∀ v w', After w (RO B R0 (app (lentsOf as) st) V) (as.map (·.arg)) vs out v w' → Good B R0 L (app ups st) (putO V d v) w' := by
  unfold callT at ht
  split at ht
  · rename_i hcond
    simp only [Bool.and_eq_true] at hcond
    obtain ⟨⟨c1, c2⟩, c3⟩ := hcond
    simp only [hc] at ht
    split at ht
    · cases ht
    · rename_i hnp
      split at ht
      · rename_i u hu
        injection ht with ht
        subst ht
        obtain ⟨k1, k2⟩ := call_keeps (out := out) (d := d) hg hf hfz hls c1 c2 c3
        exact ⟨by simpa using hnp, k1, k2 u hu⟩
      · cases ht
  · cases ht

theorem callP_kept (hg : Good B R0 L st V w) (hf : Fresh m st) {as : List Lent} {vs : List Value} {con : Con} {out : Out} {ch : List PanicEntry} (hfz : Frz st (lentsOf as)) (hls : LentsOK w (RO B R0 (app (lentsOf as) st) V) st V as vs)
    (hc : con (as.map (·.arg)) = some out) (ht : callP con as = some (ch, ups)) :
    out.res = .panic ch ∧ Ready w (RO B R0 (app (lentsOf as) st) V) (as.map (·.arg)) vs ∧ ∀ v w', After w (RO B R0 (app (lentsOf as) st) V) (as.map (·.arg)) vs out v w' → Good B R0 L (app ups st) V w' := by
  unfold callP at ht
  split at ht
  · rename_i hcond
    simp only [Bool.and_eq_true] at hcond
    obtain ⟨c1, c2⟩ := hcond
    simp only [hc] at ht
    split at ht
    · rename_i ch' hr
      split at ht
      · rename_i u hu
        injection ht with ht
        injection ht with ht1 ht2
        subst ht1 ht2
        obtain ⟨k1, k2⟩ := call_keeps (out := out) (d := none) (m := m) hg hf hfz hls c1 c2 rfl
        refine ⟨hr, k1, fun v w' h => ?_⟩
        have := k2 u hu v w' h
        simpa [dstUps, putO] using this
      · cases ht
    · cases ht
  · cases ht

end
end Go.Tm

/- Stamps: what a step leaves carries its own stamp, or one of its operands'. -/
set_option linter.unusedVariables false
set_option linter.unusedSimpArgs false
namespace Go.Tm

def stampOf : Slot → Option Nat
  | .own n _ _ => some n
  | .obj n _ _ => some n
  | .asl n _ _ => some n
  | .apt n _ _ => some n
  | _ => none

def Stamped (m : Nat) (ls : List Lk) (ups : Ups) : Prop := ∀ p ∈ ups, ∀ n, stampOf p.2 = some n → n = m ∨ ∃ l ∈ ls, stampOf l.s = some n

section
variable {tab : Tab} {Γ : Cons} {m : Nat} {ls : List Lk} {ups : Ups} {d : Option Tmp}

theorem Stamped.nil : Stamped m ls [] := fun p hp => by simp at hp

theorem Stamped.cons {k : Nat} {s : Slot} (h : ∀ n, stampOf s = some n → n = m ∨ ∃ l ∈ ls, stampOf l.s = some n) (r : Stamped m ls ups) : Stamped m ls ((k, s) :: ups) := by
  intro p hp n hn
  rcases List.mem_cons.1 hp with rfl | hp
  · exact h n hn
  · exact r p hp n hn

theorem Stamped.append {u v : Ups} (h : Stamped m ls u) (k : Stamped m ls v) : Stamped m ls (u ++ v) := by
  intro p hp
  rcases List.mem_append.1 hp with hp | hp
  · exact h p hp
  · exact k p hp

theorem Stamped.low {u : Ups} (h : ∀ p ∈ u, aliasOf p.2 = none ∧ owning p.2 = false) : Stamped m ls u := by
  intro p hp n hn
  obtain ⟨h1, h2⟩ := h p hp
  cases hs : p.2 <;> rw [hs] at hn h1 h2 <;> simp [stampOf, aliasOf, owning] at hn h1 h2

theorem into_stamped {s : Slot} (h : into d s = some ups) (hs : ∀ n, stampOf s = some n → n = m ∨ ∃ l ∈ ls, stampOf l.s = some n) : Stamped m ls ups := by
  unfold into at h
  split at h
  · injection h with h; subst h; exact .nil
  · split at h
    · cases h
    · injection h with h; subst h; exact .cons hs .nil

theorem into_val {t : Ty} {x : t.den} (h : into d (.val t x) = some ups) : Stamped m ls ups := into_stamped h (fun n hn => by simp [stampOf] at hn)

theorem into_self {l : Lk} (hl : l ∈ ls) (h : into d l.s = some ups) : Stamped m ls ups := into_stamped h (fun n hn => .inr ⟨l, hl, hn⟩)

theorem frzAll_alias : ∀ {ls : List Lk} {ws : List (Option Ty)} {ds : List Dv} {u : Ups}, frzAll ls ws = some (ds, u) → ∀ p ∈ u, aliasOf p.2 = none ∧ owning p.2 = false
  | [], ws, ds, u, h => by
    simp only [frzAll, Option.some.injEq, Prod.mk.injEq] at h
    obtain ⟨_, rfl⟩ := h
    intro p hp; simp at hp
  | x :: r, ws, ds, u, h => by
    simp only [frzAll] at h
    split at h
    · rename_i d u1 ds' us e1 e2
      simp only [Option.some.injEq, Prod.mk.injEq] at h
      obtain ⟨_, rfl⟩ := h
      intro p hp
      rcases List.mem_append.1 hp with hp | hp
      · exact frz_alias e1 p hp
      · exact frzAll_alias e2 p hp
    · cases h

theorem arg_stamped {x : Lk} {w : Option Ty} {a : Lent} (e1 : toArg x w = some a) : (∀ p, a.lent = some p → aliasOf p.2 = none ∧ owning p.2 = false) ∧ ∀ s n, a.io = some (s, n) → stampOf x.s = some n := by
  obtain ⟨s, c⟩ := x
  unfold toArg at e1
  simp only at e1
  split at e1
  · injection e1 with e1; subst e1; exact ⟨(fun p hp => by cases hp), (fun s n hs => by cases hs)⟩
  · split at e1
    · injection e1 with e1; subst e1; exact ⟨(fun p hp => by cases hp), (fun s n hs => by cases hs)⟩
    · cases e1
  · split at e1
    · injection e1 with e1; subst e1; exact ⟨(fun p hp => by injection hp with hp; subst hp; exact ⟨rfl, rfl⟩), (fun s n hs => by cases hs)⟩
    · cases e1
  · split at e1
    · injection e1 with e1; subst e1; exact ⟨(fun p hp => by injection hp with hp; subst hp; exact ⟨rfl, rfl⟩), (fun s n hs => by cases hs)⟩
    · cases e1
  · split at e1
    · injection e1 with e1; subst e1; exact ⟨(fun p hp => by cases hp), (fun s n hs => by injection hs with hs; injection hs with e1 e2; subst e2; rfl)⟩
    · cases e1
  · injection e1 with e1; subst e1; exact ⟨(fun p hp => by cases hp), (fun s n hs => by cases hs)⟩
  · injection e1 with e1; subst e1; exact ⟨(fun p hp => by cases hp), (fun s n hs => by cases hs)⟩
  · cases e1
theorem argR_stamped {x : Lk} {w : Option Ty} {a : Lent} (e1 : toArgR x w = some a) : (∀ p, a.lent = some p → aliasOf p.2 = none ∧ owning p.2 = false) ∧ ∀ s n, a.io = some (s, n) → stampOf x.s = some n := by
  unfold toArgR at e1
  split at e1
  · rename_i h1 h2
    split at e1
    · injection e1 with e1; subst e1
      exact ⟨(fun p hp => by cases hp), (fun s n hs => by injection hs with hs; injection hs with e1 e2; subst e2; rw [h1]; rfl)⟩
    · cases e1
  · split at e1
    · injection e1 with e1; subst e1; exact ⟨(fun p hp => by cases hp), (fun s n hs => by cases hs)⟩
    · cases e1
  · exact arg_stamped e1
def Stam (ls : List Lk) (as : List Lent) : Prop := (∀ p ∈ lentsOf as, aliasOf p.2 = none ∧ owning p.2 = false) ∧ ∀ a ∈ as, ∀ s n, a.io = some (s, n) → ∃ l ∈ ls, stampOf l.s = some n
theorem stam_nil {ls : List Lk} : Stam ls [] := ⟨(fun p hp => by simp [lentsOf] at hp), (fun a ha => by simp at ha)⟩
theorem stam_cons {x : Lk} {r : List Lk} {a : Lent} {as : List Lent} (key : (∀ p, a.lent = some p → aliasOf p.2 = none ∧ owning p.2 = false) ∧ ∀ s n, a.io = some (s, n) → stampOf x.s = some n) (h : Stam r as) : Stam (x :: r) (a :: as) := by
  obtain ⟨h1, h2⟩ := h
  refine ⟨fun p hp => ?_, fun b hb s n hs => ?_⟩
  · simp only [lentsOf, List.filterMap_cons] at hp
    cases hl : a.lent with
    | none => rw [hl] at hp; exact h1 p hp
    | some q =>
      rw [hl] at hp
      rcases List.mem_cons.1 hp with rfl | hp
      · exact key.1 _ hl
      · exact h1 p hp
  · rcases List.mem_cons.1 hb with rfl | hb
    · exact ⟨x, by simp, key.2 s n hs⟩
    · obtain ⟨l, hl, hn⟩ := h2 b hb s n hs
      exact ⟨l, by simp [hl], hn⟩
theorem args_stamped : ∀ {ls : List Lk} {ws : List (Option Ty)} {as : List Lent}, toArgs ls ws = some as → Stam ls as
  | [], ws, as, h => by
    simp only [toArgs, Option.some.injEq] at h
    subst h
    exact stam_nil
  | x :: r, ws, as, h => by
    simp only [toArgs] at h
    split at h
    · rename_i a as' e1 e2
      injection h with h
      subst h
      exact stam_cons (arg_stamped e1) (args_stamped e2)
    · cases h
theorem argsR_stamped : ∀ {ls : List Lk} {ws : List (Option Ty)} {as : List Lent}, toArgsR ls ws = some as → Stam ls as
  | [], ws, as, h => by
    simp only [toArgsR, Option.some.injEq] at h
    subst h
    exact stam_nil
  | x :: r, ws, as, h => by
    simp only [toArgsR] at h
    split at h
    · rename_i a as' e1 e2
      injection h with h
      subst h
      exact stam_cons (argR_stamped e1) (argsR_stamped e2)
    · cases h
theorem argsM_stamped {b : Bool} {ls : List Lk} {ws : List (Option Ty)} {as : List Lent} (h : toArgsM b ls ws = some as) : Stam ls as := by
  unfold toArgsM at h
  split at h
  · exact argsR_stamped h
  · exact args_stamped h
theorem lents_caps {as : List Lent} {l : List Dv} : lentsOf (as ++ l.map fun x => (⟨.ptr x, none, none⟩ : Lent)) = lentsOf as := by
  simp only [lentsOf, List.filterMap_append]
  have : (l.map fun x => (⟨.ptr x, none, none⟩ : Lent)).filterMap (·.lent) = [] := by
    induction l with
    | nil => rfl
    | cons d l ih => simp
  rw [this, List.append_nil]
theorem ios_caps {as : List Lent} {l : List Dv} : iosOf (as ++ l.map fun x => (⟨.ptr x, none, none⟩ : Lent)) = iosOf as := by
  simp only [iosOf, List.filterMap_append]
  have : (l.map fun x => (⟨.ptr x, none, none⟩ : Lent)).filterMap ioOf = [] := by
    induction l with
    | nil => rfl
    | cons d l ih => simp [ioOf]
  rw [this, List.append_nil]
theorem caps_stamped {x : Lk} {r : List Lk} {as : List Lent} {l : List Dv} (h : Stam r as) : Stam (x :: r) (as ++ l.map fun x => ⟨.ptr x, none, none⟩) := by
  refine ⟨fun p hp => ?_, fun b hb s n hs => ?_⟩
  · rw [lents_caps] at hp
    exact h.1 p hp
  · rcases List.mem_append.1 hb with hb | hb
    · obtain ⟨l, hl, hn⟩ := h.2 b hb s n hs
      exact ⟨l, by simp [hl], hn⟩
    · obtain ⟨d, _, rfl⟩ := List.mem_map.1 hb
      cases hs

theorem ioUps_stamped : ∀ {as : List Lent} {ds : List Dv} {u : Ups}, (∀ a ∈ as, ∀ s n, a.io = some (s, n) → ∃ l ∈ ls, stampOf l.s = some n) → ioUps as ds = some u → Stamped m ls u
  | [], ds, u, h, hu => by
    cases ds with
    | nil => simp only [ioUps, Option.some.injEq] at hu; subst hu; exact .nil
    | cons d ds => simp [ioUps] at hu
  | a :: as, ds, u, h, hu => by
    simp only [ioUps] at hu
    split at hu
    · exact ioUps_stamped (fun b hb => h b (by simp [hb])) hu
    · rename_i s n hio
      split at hu
      · simp only [Option.map_eq_some_iff] at hu
        obtain ⟨u', hu', rfl⟩ := hu
        exact .cons (fun n' hn => by simp [stampOf] at hn) (ioUps_stamped (fun b hb => h b (by simp [hb])) hu')
      split at hu
      · split at hu
        · simp only [Option.map_eq_some_iff] at hu
          obtain ⟨u', hu', rfl⟩ := hu
          refine .cons (fun n' hn => ?_) (ioUps_stamped (fun b hb => h b (by simp [hb])) hu')
          simp only [stampOf, Option.some.injEq] at hn
          subst hn
          exact .inr (h a (by simp) s n hio)
        · cases hu
      · cases hu

theorem res_stamp {r : Res} {n : Nat} (h : stampOf (r.slot m) = some n) : n = m := by
  cases r <;> simp [Res.slot, stampOf] at h <;> exact h.symm

theorem call_stamped {con : Con} {as : List Lent} (ha : Stam ls as) (h : callT con d m as = some ups) : Stamped m ls ups := by
  obtain ⟨h1, h2⟩ := ha
  unfold callT at h
  split at h
  · split at h
    · split at h
      · cases h
      split at h
      · rename_i out hc hnp u' u hu
        injection h with h
        subst h
        refine .append (.append ?_ (ioUps_stamped h2 hu)) ?_
        · split
          · exact .low h1
          · exact .nil
        · cases d with
          | none => exact .nil
          | some d =>
            exact .cons (fun n hn => .inl (res_stamp hn)) .nil
      · cases h
    · cases h
  · cases h

theorem one_val {k : Nat} {t : Ty} {x : t.den} : Stamped m ls [(k, .val t x)] := .cons (fun n hn => by simp [stampOf] at hn) .nil
theorem one_own {k : Nat} {t : Ty} {x : List t.den} : Stamped m ls [(k, .own m t x)] := .cons (fun n hn => by simp [stampOf] at hn; exact .inl hn.symm) .nil
theorem one_obj {k : Nat} {t : Ty} {x : t.den} : Stamped m ls [(k, .obj m t x)] := .cons (fun n hn => by simp [stampOf] at hn; exact .inl hn.symm) .nil

theorem pick_stamped {c a b : Lk} (ha : a ∈ ls) (hb : b ∈ ls) (h : stepPick d c a b = some ups) : Stamped m ls ups := by
  unfold stepPick at h
  split at h
  · split at h
    · split at h
      · exact into_val h
      · cases h
    · refine into_stamped h (fun n hn => ?_)
      split at hn
      · exact .inr ⟨a, ha, hn⟩
      · exact .inr ⟨b, hb, hn⟩
  · cases h

theorem assign_stamped {x : Lk} (hx : x ∈ ls) (h : stepAssign d m x = some ups) : Stamped m ls ups := by
  unfold stepAssign at h
  split at h
  · injection h with h; subst h; exact .nil
  · split at h
    · rename_i hs _
      split at h
      · split at h
        · injection h with h; subst h; exact .nil
        · injection h with h; subst h
          refine .cons (fun n hn => .inl ?_) one_own
          simpa [stampOf] using hn.symm
      · cases h
    · rename_i hs _
      split at h
      · split at h
        · injection h with h; subst h; exact one_own
        · injection h with h; subst h
          refine .cons (fun n hn => .inr ⟨x, hx, ?_⟩) .nil
          rw [hs]; exact hn
      · cases h
    · rename_i hs _
      split at h
      · split at h
        · injection h with h; subst h; exact .nil
        · split at h
          · injection h with h; subst h
            exact .cons (fun n hn => .inr ⟨x, hx, by rw [hs]; exact hn⟩) .nil
          injection h with h; subst h
          refine .cons (fun n hn => .inl ?_) one_obj
          simpa [stampOf] using hn.symm
      · cases h
    · exact into_self hx h

theorem store_stamped {t : TypeId} {x y : Lk} (hx : x ∈ ls) (h : stepStore tab t x y = some ups) : Stamped m ls ups := by
  unfold stepStore at h
  split at h
  · rename_i hz
    split at h
    · split at h
      · rename_i hs _
        split at h
        · split at h
          · injection h with h; subst h
            exact .cons (fun n hn => .inr ⟨x, hx, by rw [hs, ← hn]; simp_all [stampOf]⟩) (.low (frz_alias hz))
          · cases h
        · cases h
      · rename_i hs _
        split at h
        · split at h
          · injection h with h; subst h
            exact .cons (fun n hn => .inr ⟨x, hx, by rw [hs, ← hn]; simp_all [stampOf]⟩) (.low (frz_alias hz))
          · cases h
        · cases h
      · cases h
    · cases h
  · cases h

theorem indexAddr_stamp {t : TypeId} {x i : Lk} {s : Slot} {n : Nat} (h : stepIndexAddr tab t x i = some s) (hn : stampOf s = some n) : stampOf x.s = some n := by
  unfold stepIndexAddr at h
  split at h
  · cases h
  · split at h
    · split at h
      · split at h
        · split at h
          · injection h with h; subst h; simp [stampOf] at hn
          · cases h
        · cases h
      · rename_i hs _
        split at h
        · split at h
          · injection h with h; subst h; rw [hs]; exact hn
          · cases h
        · cases h
      · rename_i hs _
        split at h
        · split at h
          · injection h with h; subst h; rw [hs]; exact hn
          · cases h
        · cases h
      · cases h
    · split at h
      · split at h
        · split at h
          · split at h
            · injection h with h; subst h; simp [stampOf] at hn
            · rename_i hs
              injection h with h; subst h; rw [hs]; exact hn
            · cases h
          · cases h
        · cases h
      · cases h
    · cases h

theorem fieldAddr_stamp {t : TypeId} {x : Lk} {f : Nat} {s : Slot} {n : Nat} (h : stepFieldAddr tab t x f = some s) (hn : stampOf s = some n) : stampOf x.s = some n := by
  unfold stepFieldAddr at h
  split at h
  · split at h
    · split at h
      · split at h
        · injection h with h; subst h; simp [stampOf] at hn
        · rename_i hs
          injection h with h; subst h; rw [hs]; exact hn
        · cases h
      · cases h
    · cases h
  · cases h

theorem slice_stamp {t : TypeId} {x : Lk} {lo hi : Option Lk} {s : Slot} {n : Nat} (h : stepSlice tab t x lo hi = some s) (hn : stampOf s = some n) : stampOf x.s = some n := by
  unfold stepSlice at h
  split at h
  · split at h
    · simp only [Option.map_eq_some_iff] at h; obtain ⟨_, _, rfl⟩ := h; simp [stampOf] at hn
    · cases h
  · split at h
    · simp only [Option.map_eq_some_iff] at h; obtain ⟨_, _, rfl⟩ := h; simp [stampOf] at hn
    · cases h
  · rename_i hs
    split at h
    · split at h
      · split at h
        · injection h with h; subst h; rw [hs]; exact hn
        · simp only [Option.map_eq_some_iff] at h; obtain ⟨_, _, rfl⟩ := h; rw [hs]; exact hn
      · cases h
    · cases h
  · rename_i hs
    split at h
    · split at h
      · simp only [Option.map_eq_some_iff] at h; obtain ⟨_, _, rfl⟩ := h; rw [hs]; exact hn
      · cases h
    · cases h
  · cases h

theorem sl_stamped {t : TypeId} {x : Lk} {lo hi : Option Lk} (hx : x ∈ ls) (h : stepSl tab t d x lo hi = some ups) : Stamped m ls ups := by
  have hd : ∀ {u : Ty} {ys : List u.den}, Stamped m ls (dstUps d (.val (.slice u) ys)) := by
    intro u ys
    cases d with
    | none => exact .nil
    | some d => exact .cons (fun n hn => by simp [stampOf] at hn) .nil
  have harr : ∀ {ups}, stepArr tab t d x lo hi = some ups → Stamped m ls ups := by
    intro ups h
    unfold stepArr at h
    split at h
    · split at h
      · simp only [Option.map_eq_some_iff] at h; obtain ⟨_, _, rfl⟩ := h; exact hd
      · cases h
    · split at h
      · split at h
        · simp only [Option.map_eq_some_iff] at h; obtain ⟨_, _, rfl⟩ := h; exact .cons (fun n hn => by simp [stampOf] at hn) hd
        · cases h
      · cases h
    · cases h
  unfold stepSl at h
  split at h
  · exact harr h
  · exact harr h
  · split at h
    · rename_i hs
      exact into_stamped h (fun n hn => .inr ⟨_, hx, slice_stamp hs hn⟩)
    · cases h

theorem convert_stamped {src dst : TypeId} {x : Lk} (h : stepConvert tab src dst d m x = some ups) : Stamped m ls ups := by
  unfold stepConvert at h
  split at h
  · split at h
    · exact into_val h
    · cases h
  · split at h
    · exact into_val h
    · split at h
      · split at h
        · injection h with h; subst h; exact one_own
        · cases h
      · cases h
    · cases h
  · split at h
    · split at h
      · exact into_val h
      · cases h
    · split at h
      · split at h
        · injection h with h; subst h
          exact .cons (fun n hn => by simp [stampOf] at hn) one_own
        · cases h
      · cases h
    · cases h

theorem append_stamped {t t2 : TypeId} {x y : Lk} (h : stepAppend tab t t2 d m x y = some ups) : Stamped m ls ups := by
  unfold stepAppend at h
  split at h
  · split at h
    · split at h
      · injection h with h; subst h
        refine .append ?_ one_own
        split
        · exact .cons (fun n hn => by simp [stampOf] at hn) .nil
        · exact .nil
      · cases h
    · cases h
  · cases h

theorem dst_low {k : Option Tmp} {t : Ty} {x : t.den} : Stamped m ls (dstUps k (.val t x)) := by
  cases k with
  | none => exact .nil
  | some k => exact .cons (fun n hn => by simp [stampOf] at hn) .nil
theorem dst_tup {k : Option Tmp} {l : List Dv} : Stamped m ls (dstUps k (.tup l)) := by
  cases k with
  | none => exact .nil
  | some k => exact .cons (fun n hn => by simp [stampOf] at hn) .nil
theorem copy_stamped {t t2 : TypeId} {x y : Lk} (hx : x ∈ ls) (h : stepCopy tab t t2 d x y = some ups) : Stamped m ls ups := by
  unfold stepCopy at h
  split at h
  · rename_i hs _
    split at h
    · simp only [Option.map_eq_some_iff] at h
      obtain ⟨ys, _, rfl⟩ := h
      exact .cons (fun n hn => .inr ⟨x, hx, by rw [hs]; exact hn⟩) dst_low
    · cases h
  · cases h
theorem clear_stamped {t : TypeId} {x : Lk} (hx : x ∈ ls) (h : stepClear tab t d x = some ups) : Stamped m ls ups := by
  unfold stepClear at h
  split at h
  · rename_i hs _
    split at h
    · injection h with h; subst h
      exact .cons (fun n hn => .inr ⟨x, hx, by rw [hs]; exact hn⟩) dst_tup
    · cases h
  · cases h
theorem call_step_stamped {c : Call} (h : stepCall tab Γ c d m ls = some ups) : Stamped m ls ups := by
  unfold stepCall at h
  split at h
  · split at h
    · split at h
      · exact into_val h
      · cases h
    · cases h
  · split at h
    · exact append_stamped h
    · cases h
  · split at h
    · exact copy_stamped (by simp) h
    · cases h
  · split at h
    · exact clear_stamped (by simp) h
    · cases h
  · split at h
    · split at h
      · split at h
        · exact into_val h
        · cases h
      · cases h
    · cases h
  · split at h
    · split at h
      · split at h
        · exact into_val h
        · cases h
      · cases h
    · cases h
  · split at h
    · split at h
      · rename_i as e2
        exact call_stamped (argsM_stamped e2) h
      · cases h
    · cases h
  · split at h
    · split at h
      · split at h
        · split at h
          · rename_i as e2
            exact call_stamped (caps_stamped (args_stamped e2)) h
          · cases h
        · cases h
      · cases h
    · cases h
  · cases h

theorem catchs_low : ∀ {ls : List Lk} {ds : List Dv} {us : Ups}, catchs ls = some (ds, us) → ∀ p ∈ us, aliasOf p.2 = none ∧ owning p.2 = false
  | [], ds, us, h => by
    simp only [catchs, Option.some.injEq, Prod.mk.injEq] at h
    obtain ⟨_, rfl⟩ := h
    exact fun p hp => by simp at hp
  | l :: ls, ds, us, h => by
    simp only [catchs] at h
    split at h
    · rename_i d u ds' us' e1 e2
      injection h with h
      injection h with h1 h2
      subst h1 h2
      refine fun p hp => (List.mem_append.1 hp).elim (fun hp => ?_) (catchs_low e2 p)
      unfold catch1 at e1
      split at e1
      · split at e1
        · injection e1 with e1
          injection e1 with e3 e4
          subst e4
          simp only [List.mem_singleton] at hp
          subst hp
          exact ⟨rfl, rfl⟩
        · cases e1
      · injection e1 with e1
        injection e1 with e3 e4
        subst e4
        simp at hp
      · cases e1
    · cases h

theorem makeFunc_stamped {fn : Fn} {first : Array Operand} {d : Option Tmp} (h : stepMakeFunc fn first d ls = some ups) : Stamped m ls ups := by
  unfold stepMakeFunc at h
  split at h
  · split at h
    · split at h
      · rename_i ds us hc
        injection h with h
        subst h
        refine .append (.low (catchs_low hc)) (.cons (fun n hn => by simp [stampOf] at hn) .nil)
      · cases h
    · cases h
  · cases h

set_option maxHeartbeats 1000000 in
theorem step_stamped {o : Oper} (h : step tab Γ o m ls = some ups) : Stamped m ls ups := by
  unfold step at h
  split at h
  · exact into_self (by simp) h
  · exact assign_stamped (by simp) h
  · exact pick_stamped (by simp) (by simp) h
  · split at h
    · injection h with h; subst h; exact one_obj
    · cases h
  · split at h
    · rename_i hz
      injection h with h; subst h
      exact .append (.low (frz_alias hz)) one_obj
    · cases h
  · unfold stepBuild at h
    split at h
    · split at h
      · split at h
        · rename_i hz
          split at h
          · injection h with h; subst h
            exact .append (.low (frzAll_alias hz)) one_val
          · cases h
        · cases h
      · cases h
    · cases h
  · unfold stepBuildSlice at h
    split at h
    · split at h
      · split at h
        · rename_i hz
          split at h
          · injection h with h; subst h
            exact .append (.low (frzAll_alias hz)) one_own
          · cases h
        · cases h
      · cases h
    · cases h
  · split at h
    · split at h
      · exact into_val h
      · cases h
    · cases h
  · split at h
    · exact store_stamped (by simp) h
    · cases h
  · split at h
    · exact into_self (by simp) h
    · cases h
  · unfold stepBin at h
    split at h
    · split at h
      · split at h
        · exact into_val h
        · cases h
      · cases h
    · cases h
  · unfold stepUn at h
    split at h
    · split at h
      · exact into_val h
      · cases h
    · cases h
  · exact convert_stamped h
  · unfold stepMake at h
    split at h
    · split at h
      · injection h with h; subst h; exact one_own
      · cases h
    · cases h
  · exact sl_stamped (by simp) h
  · exact sl_stamped (by simp) h
  · exact sl_stamped (by simp) h
  · exact sl_stamped (by simp) h
  · split at h
    · rename_i hs
      exact into_stamped h (fun n hn => .inr ⟨_, by simp, fieldAddr_stamp hs hn⟩)
    · cases h
  · split at h
    · split at h
      · split at h
        · exact into_val h
        · cases h
      · cases h
    · cases h
  · split at h
    · rename_i hs
      exact into_stamped h (fun n hn => .inr ⟨_, by simp, indexAddr_stamp hs hn⟩)
    · cases h
  · unfold stepIndex at h
    split at h
    · split at h
      · split at h
        · exact into_val h
        · cases h
      · split at h
        · exact into_val h
        · cases h
      · cases h
    · cases h
  · split at h
    · split at h
      · exact into_val h
      · cases h
    · cases h
  · split at h
    · split at h
      · exact into_stamped h (fun n hn => by simp [stampOf] at hn)
      · cases h
    · cases h
  · exact makeFunc_stamped h
  · exact call_step_stamped h
  · cases h

end
end Go.Tm

/- Whole bodies: what is to be shown of a body (Ex), stepping through it in the order of its text. -/
set_option linter.unusedVariables false
set_option linter.unusedSimpArgs false
namespace Go.Tm

/-- The result is there, and K holds of it. -/
def opt {α : Type} (x : Option α) (K : α → Prop) : Prop := ∃ y, x = some y ∧ K y

def gtmp (ops : Array Oper) (j : Nat) : Option Tmp := (ops[j]?).bind (·.dst)

inductive Gd where
  | run
  | skip
  | ask (b want : Bool)
  | lost

/-- Is the operation wanted? -/
def gd (ops : Array Oper) (st : St) (o : Oper) : Gd :=
  match o.guard with
  | none => .run
  | some (j, want) => match gtmp ops j with
    | none => .skip
    | some t => if t < ghost then match st t with
      | .val .bool b => .ask b want
      | .tup [] => .skip
      | _ => .lost
      else .lost

/-- What an operation reads, and what it turned. -/
abbrev Tr := List (List Nat × List Nat)

def rd1 (st : St) : Operand → List Nat
  | .tmp t => t :: (match aliasOf (st t) with | some (_, k) => [k] | none => [])
  | _ => []

/-- A move looks at its slot alone, and not where that leads. -/
def shallow : Op → Bool
  | .move _ => true
  | _ => false
def rd2 (b : Bool) (st : St) (x : Operand) : List Nat := match b, x with
  | true, .tmp t => [t]
  | _, x => rd1 st x
def rds (ops : Array Oper) (st : St) (o : Oper) : List Nat :=
  (match o.guard with | some (j, _) => (gtmp ops j).toList | none => []) ++ ((opnds o.op).map (rd2 (shallow o.op) st)).flatten

def keys (u : Ups) : List Nat := u.map (·.1)

section
variable (tab : Tab) (Γ : Cons)

def exOp (o : Oper) (m : Nat) (st : St) (K : Ups → Prop) : Prop :=
  opt (looks st (opnds o.op)) fun ls => opt (step tab Γ o m ls) K

def ExOps (ops : Array Oper) : List Oper → Nat → St → Tr → (St → Tr → Prop) → Prop
  | [], _, st, tr, K => K st tr
  | o :: r, m, st, tr, K =>
    let go := fun (u : Ups) => ExOps ops r (m + 1) (app u st) ((rds ops st o, keys u) :: tr) K
    match gd ops st o with
    | .run => exOp tab Γ o m st go
    | .skip => go (dstUps o.dst (.tup []))
    | .ask b want => (b = want → exOp tab Γ o m st go) ∧ (b ≠ want → go (dstUps o.dst (.tup [])))
    | .lost => False

/-- Is it held against nil? -/
def isNil (op : BinOp) (y : Operand) : Option Bool :=
  match op, y with
  | .eql, .const (.slice none 0 0) => some false
  | .neq, .const (.slice none 0 0) => some true
  | _, _ => none

/-- Operations that are told in words of their own. -/
inductive Kd where
  | plain
  | len
  | nil (t : TypeId) (x : Operand) (neg : Bool)
  | call (f : FuncId) (args : Array Operand) (ts : Array TypeId)
  | panic (x : Operand)

def kd : Op → Kd
  | .binOp op t x y _ => match isNil op y with
    | some n => .nil t x n
    | none => .plain
  | .panic x => .panic x
  | .call c => match c.callee with
    | .builtin .len => .len
    | .value (.func f) => .call f c.args c.argTypes
    | _ => .plain
  | _ => .plain

def isLen (op : Op) : Bool :=
  match kd op with
  | .plain => false
  | _ => true

/-- What the machine's memory says of a slice. -/
def lenFact (l : Lk) : Prop := ∀ x, slc l = some x → x.2.length ≤ maxLen

def br (b : Bool) (X Y : Prop) : Prop := (b = true → X) ∧ (b = false → Y)

def nilK (t : TypeId) (l : Lk) (F : Bool → Prop) : Prop :=
  match ty tab t with
  | some (.slice _) => match l.s with
    | .nil => F true
    | _ => match slc l with
      | some x => ∀ b : Bool, (b = true → x.2 = []) → F b
      | none => False
  | _ => False

/-- The cells of what leads nowhere. -/
def fv : (t : Ty) → t.den → List Value
  | .int k, x => [.int k x]
  | .bool, x => [.bool x]
  | .str, x => [.string x]
  | .unit, _ => []
  | .prod a b, x => fv a x.1 ++ fv b x.2
  | .slice _, _ => []
  | .arr _ _, _ => []

def ifcV (T : TypeId) (t : Ty) (x : t.den) : Value := .iface T (mkv t (fv t x))

def panK (s : Slot) (X : List PanicEntry → Ups → Prop) : Prop :=
  match s with
  | .ifc T t x => flat t = true ∧ X [⟨ifcV T t x, false, false⟩] []
  | _ => False

def callK (con : Con) (d : Option Tmp) (m : Nat) (as : List Lent) (out : Out) (K : Ups → Prop) (X : List PanicEntry → Ups → Prop) : Prop :=
  match out.res with
  | .panic _ => opt (callP con as) fun p => X p.1 p.2
  | _ => opt (callT con d m as) K

def exOpF (o : Oper) (m : Nat) (st : St) (K : Ups → Prop) (X : List PanicEntry → Ups → Prop) : Prop :=
  match kd o.op with
  | .plain => opt (looks st (opnds o.op)) fun ls => opt (step tab Γ o m ls) K
  | .len => opt (looks st (opnds o.op)) fun ls => opt (step tab Γ o m ls) fun u => (∀ l ∈ ls, lenFact l) → K u
  | .nil t x neg => opt (look st x) fun l => nilK tab t l fun b => K (dstUps o.dst (.val .bool (b != neg)))
  | .call f args ts => opt (looks st args.toList) fun ls => opt (Γ f) fun con => opt (toArgsM (rowy con) ls (ts.toList.map (ty tab))) fun as => opt (con (as.map (·.arg))) fun out => callK con o.dst m as out K X
  | .panic x => opt (look st x) fun l => panK l.s X

/-- In the order of the text. -/
def ExL (ops : Array Oper) : List Oper → Nat → St → (Exit → St → Prop) → Prop
  | [], _, st, Q => Q .normal st
  | o :: r, m, st, Q =>
    match gd ops st o with
    | .run => exOpF tab Γ o m st (fun u => ExL ops r (m + 1) (app u st) Q) (fun ch u => Q (.panic ch) (app u st))
    | .skip => ExL ops r (m + 1) (app (dstUps o.dst (.tup [])) st) Q
    | .ask b want => br (b == want) (exOpF tab Γ o m st (fun u => ExL ops r (m + 1) (app u st) Q) (fun ch u => Q (.panic ch) (app u st))) (ExL ops r (m + 1) (app (dstUps o.dst (.tup [])) st) Q)
    | .lost => False

def condOf (st : St) (c : Operand) : Option Bool :=
  match ref st c with
  | some (.val .bool b) => some b
  | _ => none

end

/-! ### Orders -/
def apart (x y : List Nat) : Bool := x.all fun k => !y.contains k

/-- The operations that must have run before each operation; 'none' where an edge leads ahead. -/
def clo : List Oper → List (List Nat) → Option (List (List Nat))
  | [], acc => some acc
  | o :: r, acc =>
    let es := (o.after.toList.filter (Region.binds .any)).map (·.on)
    if es.all (fun e => decide (e < acc.length)) then clo r (acc ++ [es ++ (es.map fun e => acc.getD e []).flatten]) else none

def pairOK (cl : List (List Nat)) (tr : Tr) (i j : Nat) : Bool :=
  (cl.getD j []).contains i ||
    (apart (tr.getD i ([], [])).2 (tr.getD j ([], [])).1 && apart (tr.getD i ([], [])).2 (tr.getD j ([], [])).2 && apart (tr.getD i ([], [])).1 (tr.getD j ([], [])).2)

def indep (ops : Array Oper) (tr : Tr) : Bool :=
  match clo ops.toList [] with
  | some cl => (List.range ops.size).all fun j => (List.range j).all fun i => pairOK cl tr i j
  | none => false

def Indep (ops : Array Oper) (tr : Tr) : Prop := indep ops tr = true

/-- Some of the call's own, told as only read from here on. -/
def seal1 (k : Nat) (st : St) : St := match st k with
  | .obj _ t x => if k < ghost then put st k (.rpt t x) else st
  | .own _ t xs => put st k (.val (.slice t) xs)
  | _ => st
def seals : List Nat → St → St
  | [], st => st
  | k :: F, st => seals F (seal1 k st)

/-- Some that are nil, told as empty rows of the call's own from here on. -/
def open1 (m k : Nat) (t : Ty) (st : St) : St := match st k with
  | .nil => put st k (.own m t [])
  | _ => st
def opens : Nat → List (Nat × Ty) → St → St
  | _, [], st => st
  | m, p :: G, st => opens (m + 1) G (open1 m p.1 p.2 st)

/-- Rows that are told as only read from the region's beginning on: those that are moved and then kept in a row of rows. -/
def keeps0 (tab : Tab) (ops : Array Oper) (k : Nat) : Bool :=
  ops.toList.any fun o => match o.op with
    | .buildSlice _ _ ps => ps.toList.any fun p => match p.2 with
      | .tmp d => ops.toList.any fun o2 => match o2.op with
        | .move (.tmp s) => s == k && (match o2.dst with | some e => e == d | none => false) && (match ty tab o2.type with | some (.slice _) => true | _ => false)
        | _ => false
      | _ => false
    | _ => false
def risky0 (tab : Tab) (ops : Array Oper) : Bool :=
  ops.toList.any fun o => match o.op with
    | .buildSlice _ _ ps => ps.toList.any fun p => match p.2 with
      | .tmp d => ops.toList.any fun o2 => match o2.op with
        | .move (.tmp _) => (match o2.dst with | some e => e == d | none => false) && (match ty tab o2.type with | some (.slice _) => true | _ => false)
        | _ => false
      | _ => false
    | _ => false
/-- .. and those that are moved and then handed to two calls at least whose answers may lead there. -/
def movedRow (tab : Tab) (ops : Array Oper) (p : Nat → Bool) (x : Operand) : Bool :=
  match x with
  | .tmp d => ops.toList.any fun o2 => match o2.op with
    | .move (.tmp s) => p s && (match o2.dst with | some e => e == d | none => false) && (match ty tab o2.type with | some (.slice _) => true | _ => false)
    | _ => false
  | _ => false
def lendsF (tab : Tab) (ops : Array Oper) (p : Nat → Bool) (o : Oper) : Bool :=
  match o.op with
  | .call c => (match c.callee with | .builtin _ => false | _ => true) && (match ty tab o.type with | some t => t.far | none => false) && c.args.toList.any (movedRow tab ops p)
  | _ => false
def keeps (tab : Tab) (ops : Array Oper) (k : Nat) : Bool := keeps0 tab ops k || decide (2 ≤ (ops.toList.filter (lendsF tab ops (· == k))).length)
def risky (tab : Tab) (ops : Array Oper) : Bool := risky0 tab ops || decide (2 ≤ (ops.toList.filter (lendsF tab ops (fun _ => true))).length)
def sealS : Bool → Slot → Slot
  | true, .own _ t xs => .val (.slice t) xs
  | _, s => s
def sealP (p : Nat → Bool) (st : St) : St := fun k => sealS (p k) (st k)
def sealR (tab : Tab) (ops : Array Oper) (st : St) : St := if risky tab ops = true then sealP (keeps tab ops) st else st

section
variable (tab : Tab) (Γ : Cons)

def Ex : Code → (Exit → St → Prop) → St → Prop
  | .skip, Q, st => Q .normal st
  | .region _ ops false, Q, st => ∀ m, ExL tab Γ ops ops.toList m (sealR tab ops st) Q
  | .region _ ops true, Q, st => ∀ m, ExOps tab Γ ops ops.toList m (sealR tab ops st) [] fun st' tr => Indep ops tr.reverse ∧ Q .normal st'
  | .seq x y, Q, st => Ex x (fun e st' => match e with | .normal => Ex y Q st' | e => Q e st') st
  | .cond c x y, Q, st => match condOf st c with
    | some b => (b = true → Ex x Q st) ∧ (b = false → Ex y Q st)
    | none => False
  | .block id x, Q, st => Ex x (fun e st' => match e with | .exit j => if j = id then Q .normal st' else Q (.exit j) st' | e => Q e st') st
  | .loop x, Q, st => ∃ F : List Nat, ∃ G : List (Nat × Ty), ∃ F2 : List Nat, ∀ m, ∃ I : Nat → St → Prop, (∃ n, I n (seals F2 (opens m G (seals F st)))) ∧ ∀ n st, I n st → Ex x (fun e st' => match e with | .normal => ∃ k, k < n ∧ I k st' | e => Q e st') st
  | .exit id, Q, st => Q (.exit id) st
  | .label _, Q, st => Q .normal st
  | .ret, Q, st => Q .ret st
  | _, _, _ => False

end

def fits (N : Nat) : Code → Bool
  | .region _ ops _ => ops.all fun o => match o.dst with | some d => decide (d < N) | none => true
  | .seq x y => fits N x && fits N y
  | .cond _ x y => fits N x && fits N y
  | .block _ x => fits N x
  | .loop x => fits N x
  | _ => true

/-! ### Soundness -/
def Bnd (b : Nat) (st : St) : Prop := ∀ k n, stampOf (st k) = some n → n < b

structure Sim (B : World) (R0 L : Nat → Prop) (N : Env) (st : St) (a : Act) (w : World) : Prop where
  out : ∃ V b, Good B R0 L st V w ∧ Link N V a ∧ Bnd b st

theorem Sim.seal1 {B : World} {R0 L : Nat → Prop} {N : Env} {st : St} {a : Act} {w : World} (h : Sim B R0 L N st a w) (k : Nat) : Sim B R0 L N (Tm.seal1 k st) a w := by
  obtain ⟨V, b, hg, hl, hb⟩ := h.out
  have hbnd : ∀ s, stampOf s = none → Bnd b (put st k s) := fun s hs j n hn => by
    by_cases e : j = k
    · subst e; rw [put_same, hs] at hn; cases hn
    · rw [put_ne _ _ e] at hn; exact hb j n hn
  unfold Tm.seal1
  split
  · rename_i n t x hk
    split
    · rename_i hlt
      exact ⟨V, b, hg.freezeO hk hlt, hl, hbnd _ rfl⟩
    · exact h
  · rename_i n t xs hk
    exact ⟨V, b, hg.freeze hk, hl, hbnd _ rfl⟩
  · exact h
theorem Sim.seals {B : World} {R0 L : Nat → Prop} {N : Env} {a : Act} {w : World} : ∀ {F : List Nat} {st : St}, Sim B R0 L N st a w → Sim B R0 L N (Tm.seals F st) a w
  | [], _, h => h
  | k :: F, _, h => Sim.seals (F := F) (h.seal1 k)

theorem sealS_cases (b : Bool) (s : Slot) : (∃ n t xs, b = true ∧ s = .own n t xs ∧ sealS b s = .val (.slice t) xs) ∨ ((∀ n t xs, s = .own n t xs → b = false) ∧ sealS b s = s) := by
  cases b
  · exact .inr ⟨fun _ _ _ _ => rfl, by cases s <;> rfl⟩
  · cases s
    case own n t xs => exact .inl ⟨_, _, _, rfl, rfl, rfl⟩
    all_goals exact .inr ⟨(fun _ _ _ h => by cases h), rfl⟩
theorem sealS_none {b : Bool} {s : Slot} (h : stampOf s = none) : stampOf (sealS b s) = none := by cases b <;> cases s <;> first | rfl | exact h | cases h
theorem sealS_stamp {b : Bool} {s : Slot} {n : Nat} (h : stampOf (sealS b s) = some n) : stampOf s = some n := by cases b <;> cases s <;> first | exact h | cases h
theorem Good.sealP {B : World} {R0 L : Nat → Prop} {st : St} {V : Nat → Value} {w : World} (hg : Good B R0 L st V w) (p : Nat → Bool) : Good B R0 L (Tm.sealP p st) V w := by
  have hin : ∀ {k n t xs}, p k = true → st k = .own n t xs → Tm.sealP p st k = .val (.slice t) xs := fun hp hs => by
    unfold Tm.sealP; rw [hp, hs]; rfl
  have hout : ∀ {k}, ¬ (p k = true ∧ ∃ n t xs, st k = .own n t xs) → Tm.sealP p st k = st k := fun {k} h => by
    show sealS (p k) (st k) = st k
    rcases sealS_cases (p k) (st k) with ⟨n, t, xs, h1, h2, _⟩ | ⟨_, h2⟩
    · exact absurd ⟨h1, n, t, xs, h2⟩ h
    · exact h2
  refine hg.change (fun k => p k = true ∧ ∃ n t xs, st k = .own n t xs) rfl rfl rfl (Nat.le_refl _) (fun _ _ _ => rfl) (fun k hk => ⟨hout hk, rfl⟩) ?_ ?_ ?_ ?_
  · rintro hR k ⟨hp, n, t, xs, hs⟩
    have h := hg.rep k
    rw [hs] at h
    rw [hin hp hs]
    obtain ⟨A, c, cs, hv, h1, h2, h3, h4⟩ := h
    refine ⟨[V k], ⟨A, c, by rw [hv], h1, h2, ?_⟩, by simp [mkv, Ty.agg]⟩
    rcases h4 with ⟨rfl, rfl⟩ | ⟨ad, rfl, hm⟩
    · exact .inl (List.eq_nil_of_length_eq_zero (by omega))
    · refine .inr ⟨ad, cs, rfl, ⟨?_, fun k' hk' => ?_⟩, hm.block_lt, h3.imp (fun x c _ hx => rep_mono (Nat.le_refl _) hR (fun _ _ _ => rfl) t hx), hm.lies⟩
      · rcases hg.mine k ad.block (by rw [hs, hv]; rfl) with ⟨_, ⟨h5, _⟩ | ⟨_, h5⟩⟩ | h5
        · rw [hs] at h5; cases h5
        · exact .inl h5
        · exact .inr h5
      · by_cases e : p k' = true ∧ ∃ n t xs, st k' = .own n t xs
        · obtain ⟨hp', n', t', xs', hs'⟩ := e
          rw [hin hp' hs'] at hk'
          cases hk'
        · rw [hout e] at hk'
          have := hg.sep _ _ _ hk' (by rw [hs, hv]; rfl)
          subst this
          exact e ⟨hp, n, t, xs, hs⟩
  · rintro k b ⟨hp, n, t, xs, hs⟩ h
    rw [hin hp hs] at h
    cases h
  · rintro i j b ⟨hp, n, t, xs, hs⟩ _ h
    rw [hin hp hs] at h
    cases h
  · rintro k n' s' hk ⟨hp, n, t, xs, hs⟩ ha
    rw [hin hp hs]
    exact ⟨(fun t xs' h => by cases h), (fun t x' h => by cases h)⟩
theorem Sim.sealR {B : World} {R0 L : Nat → Prop} {N : Env} {st : St} {a : Act} {w : World} (h : Sim B R0 L N st a w) (tab : Tab) (ops : Array Oper) : Sim B R0 L N (Tm.sealR tab ops st) a w := by
  unfold Tm.sealR
  split
  · obtain ⟨V, b, hg, hl, hb⟩ := h.out
    exact ⟨V, b, hg.sealP _, hl, fun k n hn => hb k n (sealS_stamp hn)⟩
  · exact h

theorem alias_stamp {s : Slot} {n k : Nat} (h : aliasOf s = some (n, k)) : stampOf s = some n := by
  cases s <;> simp [aliasOf] at h <;> simp [stampOf, h]

theorem Good.opened {B : World} {R0 L : Nat → Prop} {st : St} {V : Nat → Value} {w : World} (hg : Good B R0 L st V w) {m k : Nat} {t : Ty} (hs : st k = .nil) (hb : Bnd m st) : Good B R0 L (Tm.put st k (.own m t [])) V w := by
  have hv : V k = .slice none 0 0 := by
    have := hg.rep k
    rw [hs] at this
    exact this
  refine hg.change (fun j => j = k) rfl rfl rfl (Nat.le_refl _) (fun _ _ _ => rfl) (fun j hj => ⟨put_ne _ _ hj, rfl⟩) ?_ ?_ ?_ ?_
  · rintro hR j rfl
    simp only [put_same]
    exact ⟨none, 0, [], hv, Nat.le_refl _, by unfold maxLen; omega, rfl, .inl ⟨rfl, rfl⟩⟩
  · rintro j b rfl h
    simp only [put_same, hv, ownBlk] at h
    cases h
  · rintro i j b rfl rfl _ _
    rfl
  · rintro j n' s' hk rfl ha
    have := hb j n' (alias_stamp ha)
    simp only [put_same]
    refine ⟨(fun t xs' h => ?_), (fun t x' h => by cases h)⟩
    cases h
    omega
theorem Sim.opens {B : World} {R0 L : Nat → Prop} {N : Env} {a : Act} {w : World} {V : Nat → Value} (hl : Link N V a) : ∀ {G : List (Nat × Ty)} {m : Nat} {st : St}, Good B R0 L st V w → Bnd m st → Sim B R0 L N (Tm.opens m G st) a w
  | [], m, _, hg, hb => ⟨V, m, hg, hl, hb⟩
  | p :: G, m, st, hg, hb => by
    have hb' : Bnd (m + 1) (Tm.open1 m p.1 p.2 st) := by
      unfold Tm.open1
      split <;> intro j n hn
      · by_cases e : j = p.1
        · subst e
          rw [put_same] at hn
          cases hn
          omega
        · rw [put_ne _ _ e] at hn
          exact Nat.lt_succ_of_lt (hb j n hn)
      · exact Nat.lt_succ_of_lt (hb j n hn)
    refine Sim.opens hl (G := G) (m := m + 1) ?_ hb'
    unfold Tm.open1
    split
    · rename_i hk
      exact hg.opened hk hb
    · exact hg

theorem self_stamp (t : Nat) (s : Slot) : stampOf (self t s) = stampOf s := by cases s <;> rfl

theorem app_stamp {u : Ups} {st : St} {k n : Nat} (h : stampOf (app u st k) = some n) : (∃ p ∈ u, stampOf p.2 = some n) ∨ stampOf (st k) = some n := by
  induction u generalizing st with
  | nil => exact .inr h
  | cons p u ih =>
    rw [app_cons] at h
    rcases ih h with ⟨q, hq, hn⟩ | h
    · exact .inl ⟨q, by simp [hq], hn⟩
    · by_cases e : k = p.1
      · subst e
        rw [put_same] at h
        exact .inl ⟨p, by simp, h⟩
      · rw [put_ne _ _ e] at h
        exact .inr h

theorem look_stamp {st : St} {x : Operand} {l : Lk} {n : Nat} (h : look st x = some l) (hn : stampOf l.s = some n) : ∃ k, stampOf (st k) = some n := by
  simp only [look, Option.map_eq_some_iff] at h
  obtain ⟨s, hs, rfl⟩ := h
  cases x with
  | tmp t =>
    simp only [ref] at hs
    split at hs
    · injection hs with hs
      subst hs
      exact ⟨t, by rw [← self_stamp t]; exact hn⟩
    · cases hs
  | const v =>
    simp only [ref] at hs
    obtain ⟨h1, h2⟩ := cst_low hs
    simp only at hn
    cases s <;> simp [stampOf, owning, aliasOf] at hn h1 h2
  | global g => simp [ref] at hs
  | func f =>
    simp only [ref] at hs
    injection hs with hs
    subst hs
    simp [stampOf] at hn

theorem looks_stamp {st : St} {n : Nat} : ∀ {xs : List Operand} {ls : List Lk}, looks st xs = some ls → (∃ l ∈ ls, stampOf l.s = some n) → ∃ k, stampOf (st k) = some n
  | [], ls, h, ⟨l, hl, _⟩ => by
    simp only [looks, Option.some.injEq] at h
    subst h
    simp at hl
  | x :: xs, ls, h, ⟨l, hl, hn⟩ => by
    simp only [looks] at h
    split at h
    · rename_i l' ls' h1 h2
      injection h with h
      subst h
      rcases List.mem_cons.1 hl with rfl | hl
      · exact look_stamp h1 hn
      · exact looks_stamp h2 ⟨l, hl, hn⟩
    · cases h

theorem step_bnd {tab : Tab} {Γ : Cons} {st : St} {o : Oper} {m : Nat} {ls : List Lk} {ups : Ups} (hx : looks st (opnds o.op) = some ls) (hs : step tab Γ o m ls = some ups) {k n : Nat} (h : stampOf (app ups st k) = some n) :
    n = m ∨ ∃ k, stampOf (st k) = some n := by
  rcases app_stamp h with ⟨p, hp, hn⟩ | h
  · rcases step_stamped hs p hp n hn with h | h
    · exact .inl h
    · exact .inr (looks_stamp hx h)
  · exact .inr ⟨k, h⟩

def ConsOK (P : Program) (Γ : Cons) : Prop := ∀ f con, Γ f = some con → ConOK P f con

section
variable {P : Program} {tab : Tab} {Γ : Cons} {B : World} {R0 L : Nat → Prop} {st : St} {V : Nat → Value} {w : World} {N : Env} {a : Act} {o : Oper} {ups : Ups} {m : Nat} {ls : List Lk}

theorem app_one {st : St} {d : Option Tmp} {s : Slot} : app (dstUps d s) st = putO st d s := by cases d <;> rfl

theorem putO_none_eq {d : Option Tmp} (h : d = none) (V : Nat → Value) (v v' : Value) : putO V d v = putO V d v' := by subst h; rfl

theorem caps_ok {R : Nat → Prop} : ∀ {l : List Dv} {vs : List Value}, rptsRep w R l vs → LentsOK w R st V (l.map fun x => (⟨.ptr x, none, none⟩ : Lent)) vs
  | [], vs, h => by
    have : vs = [] := h
    subst this
    exact .nil
  | d :: l, _, ⟨v, r, rfl, h1, h2⟩ => .cons ⟨h1, (fun p hp => by cases hp), (fun s n hs => by cases hs), (fun _ => ⟨rfl, fun d hd => by cases hd⟩)⟩ (caps_ok h2)
theorem LentsOK.append {R : Nat → Prop} {as bs : List Lent} {vs us : List Value} (h : LentsOK w R st V as vs) (k : LentsOK w R st V bs us) : LentsOK w R st V (as ++ bs) (vs ++ us) := by
  induction h with
  | nil => exact k
  | cons h _ ih => exact .cons h ih
theorem clo_ok (hg : Good B R0 L st V w) (hl : Link N V a) {k : Tmp} {xs : List Operand} {l : Lk} {r : List Lk} {f : FuncId} {caps : List Dv} {ws : List (Option Ty)} {as : List Lent} (hx : looks st (.tmp k :: xs) = some (l :: r)) (hc : l.s = .clo f caps)
    (ha : toArgs r ws = some as) : ∃ vs, a.eval (.tmp k) = .func (.func f) #[] vs.toArray ∧ Frz st (lentsOf (as ++ caps.map fun x => (⟨.ptr x, none, none⟩ : Lent))) ∧
      LentsOK w (RO B R0 (app (lentsOf (as ++ caps.map fun x => (⟨.ptr x, none, none⟩ : Lent))) st) V) st V (as ++ caps.map fun x => ⟨.ptr x, none, none⟩) (xs.map a.eval ++ vs) := by
  simp only [looks] at hx
  split at hx
  · rename_i l' ls' e1 e2
    injection hx with hx
    injection hx with h1 h2
    subst h1 h2
    have hk := (look_ok hg hl e1).rep
    rw [hc] at hk
    obtain ⟨vs, hv, hr⟩ := hk
    obtain ⟨f1, f2⟩ := args_ok hg hl e2 ha
    rw [lents_caps]
    exact ⟨vs, hv, f1, f2.append (caps_ok (hr.mono (Nat.le_refl _) (fun b _ hb => RO_app (u := []) (fun p hp => by simp at hp) (fun p hp => (f1.low p hp).1) b hb) (fun _ _ _ => rfl)))⟩
  · cases hx

theorem step_ok (ok : TabOK P tab) (hΓ : ConsOK P Γ) (hg : Good B R0 L st V w) (hl : Link N V a) (hf : Fresh m st) (hx : looks st (opnds o.op) = some ls)
    (hs : step tab Γ o m ls = some ups) {K : Act → World → Prop} {Q : Exit → Act → World → Prop} (hK : ∀ v w', Good B R0 L (app ups st) (putO V o.dst v) w' → K (a.put o.dst v) w') : o.wp P a w K Q := by
  cases hfn : isFn o.op with
  | false =>
    obtain ⟨v, w', h1, h2⟩ := step_did ok hg hl hf hfn hx hs
    unfold Oper.wp
    rcases h1 with h1 | ⟨h1, h3⟩
    · rw [h1, Oper.upon_value]
      exact hK v w' h2
    · rw [h1, Oper.upon_skip]
      refine hK undef w' ?_
      rw [putO_none_eq h3 V undef v]
      exact h2
  | true =>
    obtain ⟨c, hc⟩ : ∃ c, o.op = .call c := by
      cases ho : o.op <;> rw [ho] at hfn <;> simp [isFn] at hfn
      exact ⟨_, rfl⟩
    rw [hc] at hx hfn
    have hs' : stepCall tab Γ c o.dst m ls = some ups := by
      unfold step at hs
      rw [hc] at hs
      simpa using hs
    obtain ⟨callee, args, ts⟩ := c
    unfold stepCall at hs'
    simp only at hs'
    split at hs'
    · simp [isFn] at hfn
    · simp [isFn] at hfn
    · simp [isFn] at hfn
    · simp [isFn] at hfn
    · simp [isFn] at hfn
    · simp [isFn] at hfn
    · rename_i f
      split at hs'
      case h_2 => cases hs'
      rename_i con hcon
      split at hs'
      · rename_i as has
        simp only [opnds] at hx
        obtain ⟨g1, g2⟩ := argsM_ok hg hl hx has
        obtain ⟨out, hout⟩ : ∃ out, con (as.map (·.arg)) = some out := by
          unfold callT at hs'
          split at hs'
          · split at hs'
            · exact ⟨_, by assumption⟩
            · cases hs'
          · cases hs'
        obtain ⟨k0, k1, k2⟩ := call_kept (d := o.dst) hg hf g1 g2 hout hs'
        have hgo := hΓ f con hcon _ out _ w _ hout k1
        unfold Oper.wp
        have hargs : args.map a.eval = (args.toList.map a.eval).toArray := by
          apply Array.ext'
          simp
        rcases hgo with ⟨g, gs, w1, r1, r2⟩ | ⟨_, v, w', r1, r2⟩
        · have : (execOp a.eval o).run P w = .ok (.enter g gs) w1 := by
            simp only [execOp, hc]
            simp [resolve, Deferred.ofValue, invoke, Act.eval, hargs, r1]
          rw [this, Oper.upon_enter]
          refine r2.mono fun e w' he => ?_
          obtain ⟨v, rfl, hv⟩ := he
          rw [ends_ret k0]
          exact hK v w' (k2 v w' hv)
        · have : (execOp a.eval o).run P w = .ok (.value v) w' := by
            simp only [execOp, hc]
            simp [resolve, Deferred.ofValue, invoke, Act.eval, hargs, r1]
          rw [this, Oper.upon_value]
          exact hK v w' (k2 v w' r2)
      · cases hs'
    · rename_i k
      split at hs'
      case h_2 => cases hs'
      rename_i l r
      split at hs'
      case h_2 => cases hs'
      rename_i f caps hclo
      split at hs'
      case h_2 => cases hs'
      rename_i con hcon
      split at hs'
      · rename_i as has
        simp only [opnds] at hx
        obtain ⟨vs, hv, g1, g2⟩ := clo_ok hg hl hx hclo has
        obtain ⟨out, hout⟩ : ∃ out, con ((as ++ caps.map fun x => (⟨.ptr x, none, none⟩ : Lent)).map (·.arg)) = some out := by
          unfold callT at hs'
          split at hs'
          · split at hs'
            · exact ⟨_, by assumption⟩
            · cases hs'
          · cases hs'
        obtain ⟨k0, k1, k2⟩ := call_kept (d := o.dst) hg hf g1 g2 hout hs'
        have hgo := hΓ f con hcon _ out _ w _ hout k1
        unfold Oper.wp
        have hargs : args.map a.eval ++ vs.toArray = (args.toList.map a.eval ++ vs).toArray := by
          apply Array.ext'
          simp
        rcases hgo with ⟨g, gs, w1, r1, r2⟩ | ⟨_, v, w', r1, r2⟩
        · have : (execOp a.eval o).run P w = .ok (.enter g gs) w1 := by
            simp only [execOp, hc, resolve, hv]
            simp only [Deferred.ofValue, Act.eval, pure_bind, invoke, Array.empty_append]
            rw [hargs]
            exact r1
          rw [this, Oper.upon_enter]
          refine r2.mono fun e w' he => ?_
          obtain ⟨v, rfl, hv⟩ := he
          rw [ends_ret k0]
          exact hK v w' (k2 v w' hv)
        · have : (execOp a.eval o).run P w = .ok (.value v) w' := by
            simp only [execOp, hc, resolve, hv]
            simp only [Deferred.ofValue, Act.eval, pure_bind, invoke, Array.empty_append]
            rw [hargs]
            exact r1
          rw [this, Oper.upon_value]
          exact hK v w' (k2 v w' r2)
      · cases hs'
    · cases hs'

theorem undef_tup : SlotRep w R0 st V (.tup []) undef := ⟨[], rfl, rfl⟩

theorem skip_good (hg : Good B R0 L st V w) (d : Option Tmp) : Good B R0 L (app (dstUps d (.tup [])) st) (putO V d undef) w := by
  cases d with
  | none => exact hg
  | some d => exact hg.put d _ _ rfl rfl rfl rfl rfl undef_tup (fun n e => by cases e)

theorem Link.putO (hl : Link N V a) {d : Option Tmp} (hd : ∀ k, d = some k → k < N.n) (v : Value) : Link N (putO V d v) (a.put d v) := by
  cases d with
  | none => exact hl
  | some d => exact hl.put (hd d rfl) v

/-- What a guard says, in the machine. -/
theorem gd_ok (hg : Good B R0 L st V w) (hl : Link N V a) (ops : Array Oper) (o : Oper) :
    (gd ops st o = .run → Region.wanted o (yielded ops a.tmps) = true) ∧ (gd ops st o = .skip → Region.wanted o (yielded ops a.tmps) = false) ∧
    (∀ b want, gd ops st o = .ask b want → Region.wanted o (yielded ops a.tmps) = (b == want)) := by
  unfold gd Region.wanted
  cases hgd : o.guard with
  | none => exact ⟨fun _ => rfl, (fun h => by cases h), (fun _ _ h => by cases h)⟩
  | some p =>
    obtain ⟨j, want⟩ := p
    simp only
    cases ht : gtmp ops j with
    | none =>
      have : yielded ops a.tmps j = none := by
        unfold yielded
        unfold gtmp at ht
        rw [ht]
        rfl
      refine ⟨(fun h => by cases h), fun _ => by simp [this], (fun _ _ h => by cases h)⟩
    | some t =>
      simp only
      split
      case isFalse => exact ⟨(fun h => by cases h), (fun h => by cases h), (fun _ _ h => by cases h)⟩
      rename_i hlt
      have hy : yielded ops a.tmps j = (match V t with | .bool b => some b | _ => none) := by
        unfold yielded
        unfold gtmp at ht
        rw [ht, hl.val t hlt, Array.getD_eq_getD_getElem?]
        simp only [Option.bind_some]
        cases a.tmps[t]? with
        | none => rfl
        | some v => cases v <;> rfl
      have hr := hg.rep t
      split
      · rename_i b hs
        rw [hs] at hr
        have hv := vrep_bool hr
        refine ⟨(fun h => by cases h), (fun h => by cases h), fun b' w' h => ?_⟩
        injection h with h1 h2
        subst h1 h2
        rw [hy, hv]
        simp
      · rename_i hs
        rw [hs] at hr
        obtain ⟨vs, hv, h0⟩ := hr
        refine ⟨(fun h => by cases h), fun _ => ?_, (fun _ _ h => by cases h)⟩
        rw [hy, hv]
        simp
      · exact ⟨(fun h => by cases h), (fun h => by cases h), (fun _ _ h => by cases h)⟩

/-- What one operation turns: a run of it, or its being passed by. -/
inductive OpDone (tab : Tab) (Γ : Cons) (ops : Array Oper) (o : Oper) (m : Nat) (st : St) : Ups → Prop
  | run {ls : List Lk} {ups : Ups} (h : gd ops st o = .run ∨ ∃ b, gd ops st o = .ask b b) (hx : looks st (opnds o.op) = some ls) (hs : step tab Γ o m ls = some ups) : OpDone tab Γ ops o m st ups
  | skip (h : gd ops st o = .skip ∨ ∃ b want, gd ops st o = .ask b want ∧ b ≠ want) : OpDone tab Γ ops o m st (dstUps o.dst (.tup []))

theorem done_wp (ok : TabOK P tab) (hΓ : ConsOK P Γ) {ops : Array Oper} {i : Nat} (hi : ops[i]? = some o) (hN : ∀ k, o.dst = some k → k < N.n) (hg : Good B R0 L st V w) (hl : Link N V a) (hf : Fresh m st) (h : OpDone tab Γ ops o m st ups)
    {K : Act → World → Prop} {Q : Exit → Act → World → Prop} (hK : ∀ V' a' w', Good B R0 L (app ups st) V' w' → Link N V' a' → K a' w') : wpOp P ops Q i K a w := by
  unfold wpOp
  rw [hi]
  simp only
  obtain ⟨g1, g2, g3⟩ := gd_ok hg hl ops o
  cases h with
  | run h hx hs =>
    have hw : Region.wanted o (yielded ops a.tmps) = true := by
      rcases h with h | ⟨b, h⟩
      · exact g1 h
      · rw [g3 _ _ h]; simp
    rw [if_pos hw]
    exact .inl (step_ok ok hΓ hg hl hf hx hs fun v w' hgo => hK _ _ _ hgo (hl.putO hN v))
  | skip h =>
    have hw : Region.wanted o (yielded ops a.tmps) = false := by
      rcases h with h | ⟨b, want, h, hne⟩
      · exact g2 h
      · rw [g3 _ _ h]; simpa using hne
    rw [if_neg (by rw [hw]; simp)]
    exact hK _ _ _ (skip_good hg o.dst) (hl.putO hN undef)

theorem done_bnd {ops : Array Oper} (h : OpDone tab Γ ops o m st ups) {k n : Nat} (hn : stampOf (app ups st k) = some n) : n = m ∨ ∃ k, stampOf (st k) = some n := by
  cases h with
  | run h hx hs => exact step_bnd hx hs hn
  | skip h =>
    rcases app_stamp hn with ⟨p, hp, hn⟩ | h
    · cases hd : o.dst <;> rw [hd] at hp <;> simp [dstUps] at hp
      subst hp
      simp [stampOf] at hn
    · exact .inr ⟨k, h⟩

/-- A run in the order of the text. -/
inductive RunT (tab : Tab) (Γ : Cons) (ops : Array Oper) : List Oper → Nat → St → List (List Nat × Ups) → St → Prop
  | nil {m : Nat} {st : St} : RunT tab Γ ops [] m st [] st
  | cons {o : Oper} {r : List Oper} {m : Nat} {st st' : St} {u : Ups} {l : List (List Nat × Ups)} (h : OpDone tab Γ ops o m st u) (k : RunT tab Γ ops r (m + 1) (app u st) l st') : RunT tab Γ ops (o :: r) m st ((rds ops st o, u) :: l) st'

theorem exOps_run {ops : Array Oper} : ∀ {l : List Oper} {m : Nat} {st : St} {tr : Tr} {K : St → Tr → Prop}, ExOps tab Γ ops l m st tr K →
    ∃ us st', RunT tab Γ ops l m st us st' ∧ K st' ((us.map fun x => (x.1, keys x.2)).reverse ++ tr)
  | [], m, st, tr, K, h => ⟨[], st, .nil, h⟩
  | o :: r, m, st, tr, K, h => by
    have fin : ∀ u, OpDone tab Γ ops o m st u → ExOps tab Γ ops r (m + 1) (app u st) ((rds ops st o, keys u) :: tr) K →
        ∃ us st', RunT tab Γ ops (o :: r) m st us st' ∧ K st' ((us.map fun x => (x.1, keys x.2)).reverse ++ tr) := by
      intro u hu h
      obtain ⟨us, st', h1, h2⟩ := exOps_run h
      exact ⟨_, st', .cons hu h1, by simpa using h2⟩
    simp only [ExOps] at h
    split at h
    · rename_i hgd
      obtain ⟨ls, hx, ups, hs, h⟩ := h
      exact fin _ (.run (.inl hgd) hx hs) h
    · rename_i hgd
      exact fin _ (.skip (.inl hgd)) h
    · rename_i b want hgd
      by_cases e : b = want
      · obtain ⟨ls, hx, ups, hs, h'⟩ := h.1 e
        subst e
        exact fin _ (.run (.inr ⟨_, hgd⟩) hx hs) h'
      · exact fin _ (.skip (.inr ⟨_, _, hgd, e⟩)) (h.2 e)
    · exact h.elim

theorem fv_rep {R : Nat → Prop} : ∀ {t : Ty} {x : t.den} {cs : List Value}, flat t = true → rep w R t x cs → cs = fv t x
  | .int _, _, _, _, h => h
  | .bool, _, _, _, h => h
  | .str, _, _, _, h => h
  | .unit, _, _, _, h => h
  | .prod a b, _, _, hf, h => by
    simp only [flat, Bool.and_eq_true] at hf
    obtain ⟨c1, c2, rfl, h1, h2⟩ := h
    rw [fv_rep hf.1 h1, fv_rep hf.2 h2]
    rfl

theorem looks_cons {st : St} {x : Operand} {l : Lk} (h : look st x = some l) : looks st [x] = some [l] := by simp [looks, h]

theorem wp_now {ops : Array Oper} {i : Nat} (hi : ops[i]? = some o) (hw : Region.wanted o (yielded ops a.tmps) = true) {K : Act → World → Prop} {Q : Exit → Act → World → Prop} (h : o.wp P a w K Q) : wpOp P ops Q i K a w := by
  unfold wpOp
  rw [hi]
  simp only
  rw [if_pos hw]
  exact .inl h

theorem wanted_run (hg : Good B R0 L st V w) (hl : Link N V a) {ops : Array Oper} (h : gd ops st o = .run ∨ ∃ b, gd ops st o = .ask b b) : Region.wanted o (yielded ops a.tmps) = true := by
  obtain ⟨g1, g2, g3⟩ := gd_ok hg hl ops o
  rcases h with h | ⟨b, h⟩
  · exact g1 h
  · rw [g3 _ _ h]; simp

theorem nil_wp (ok : TabOK P tab) (hN : ∀ k, o.dst = some k → k < N.n) (hg : Good B R0 L st V w) (hl : Link N V a) {t yt : TypeId} {x y : Operand} {op : BinOp} {neg : Bool} (ho : o.op = .binOp op t x y yt) (hn : isNil op y = some neg) {l : Lk} (hx : look st x = some l)
    {F : Bool → Prop} (h : nilK tab t l F) {K : Act → World → Prop} {Q : Exit → Act → World → Prop}
    (hK : ∀ b, F b → ∀ V' a', Good B R0 L (app (dstUps o.dst (.val .bool (b != neg))) st) V' w → Link N V' a' → K a' w) : o.wp P a w K Q := by
  have hlk := look_ok hg hl hx
  have put : ∀ b : Bool, Good B R0 L (app (dstUps o.dst (.val .bool b)) st) (putO V o.dst (.bool b)) w := by
    intro b
    cases o.dst with
    | none => exact hg
    | some d => exact hg.put d _ _ rfl rfl rfl rfl rfl (mk_bool _ _ _) (fun n e => by cases e)
  obtain ⟨A, len, c, b, hv, hb, hF⟩ : ∃ A len c b, a.eval x = .slice A len c ∧ b = A.isNone ∧ F b := by
    unfold nilK at h
    split at h
    · split at h
      · rename_i hs
        have := hlk.rep
        rw [hs] at this
        exact ⟨none, 0, 0, true, this, rfl, h⟩
      · split at h
        · rename_i xs hsl
          obtain ⟨A, c, cs, hv, _, _, _, hor⟩ := slc_ok hg hlk hsl
          refine ⟨A, _, c, A.isNone, hv, rfl, h _ (fun hA => ?_)⟩
          rcases hor with h0 | ⟨ad, h0, _⟩
          · exact h0
          · rw [h0] at hA; cases hA
        · exact h.elim
    · exact h.elim
  have hty : ∃ e, P.underlying t = some (.slice e) := by
    unfold nilK at h
    split at h
    · rename_i hty
      obtain ⟨e, h1, _⟩ := tab_slice ok hty
      exact ⟨e, h1⟩
    · exact h.elim
  obtain ⟨e, hu⟩ := hty
  have hK' := hK b hF _ _ (put (b != neg)) (hl.putO hN _)
  unfold Oper.wp
  have he0 : a.eval (.const (.slice none 0 0)) = .slice none 0 0 := rfl
  have hrun : (execOp a.eval o).run P w = .ok (.value (.bool (b != neg))) w := by
    unfold isNil at hn
    split at hn
    · injection hn with hn
      subst hn hb
      simp [execOp, ho, hv, he0, eqGuard, Lib.run_eql_slice_nil w t e A len c 0 0 hu]
    · injection hn with hn
      subst hn hb
      simp [execOp, ho, hv, he0, eqGuard, run_neq_slice_nil_any w t e A len c 0 0 hu]
    · cases hn
  rw [hrun, Oper.upon_value]
  exact hK'

theorem text_ops (ok : TabOK P tab) (hΓ : ConsOK P Γ) {ops : Array Oper} {Q : Exit → Act → World → Prop} {K : Exit → St → Prop} : ∀ {l : List Oper} {i m : Nat} {st : St} {V : Nat → Value} {a : Act} {w : World},
    (∀ j, l[j]? = ops[i + j]?) → (∀ o ∈ l, ∀ k, o.dst = some k → k < N.n) → ExL tab Γ ops l m st K → Good B R0 L st V w → Link N V a → Bnd m st →
    (∀ e st' V' a' w', K e st' → Good B R0 L st' V' w' → Link N V' a' → (∃ b, Bnd b st') → Q e a' w') → wpOps P ops Q (List.range' i l.length) a w
  | [], i, m, st, V, a, w, hj, hN, h, hg, hl, hb, hQ => by
    simp only [List.length_nil, List.range'_zero, wpOps]
    exact hQ _ _ _ _ _ h hg hl ⟨m, hb⟩
  | o :: r, i, m, st, V, a, w, hj, hN, h, hg, hl, hb, hQ => by
    rw [List.length_cons, List.range'_succ, wpOps_cons]
    have hi : ops[i]? = some o := by simpa using (hj 0).symm
    have hfr : Fresh m st := fun k n s ha e => by have := hb k n (alias_stamp ha); omega
    have rest : ∀ {st' V' a' w'}, ExL tab Γ ops r (m + 1) st' K → Good B R0 L st' V' w' → Link N V' a' → Bnd (m + 1) st' → wpOps P ops Q (List.range' (i + 1) r.length) a' w' := by
      intro st' V' a' w' h g l hb'
      refine text_ops ok hΓ (fun j => ?_) (fun o' ho' => hN o' (by simp [ho'])) h g l hb' hQ
      have := hj (j + 1)
      simp only [List.getElem?_cons_succ] at this
      rw [this]
      congr 1
      omega
    have fin : ∀ u, OpDone tab Γ ops o m st u → ExL tab Γ ops r (m + 1) (app u st) K → wpOp P ops Q i (wpOps P ops Q (List.range' (i + 1) r.length)) a w := by
      intro u hd h
      refine done_wp ok hΓ hi (hN o (by simp)) hg hl hfr hd fun V' a' w' g l => rest h g l (fun k n hn => ?_)
      rcases done_bnd hd hn with h | ⟨k', h⟩
      · omega
      · have := hb k' n h
        omega
    have run : (gd ops st o = .run ∨ ∃ b, gd ops st o = .ask b b) → (exOpF tab Γ o m st (fun u => ExL tab Γ ops r (m + 1) (app u st) K) (fun ch u => K (.panic ch) (app u st))) → wpOp P ops Q i (wpOps P ops Q (List.range' (i + 1) r.length)) a w := by
      intro hgd h
      have hw := wanted_run hg hl hgd
      unfold exOpF at h
      split at h
      · obtain ⟨ls, hx, ups, hs, h⟩ := h
        exact fin ups (.run hgd hx hs) h
      · obtain ⟨ls, hx, ups, hs, h⟩ := h
        refine fin ups (.run hgd hx hs) (h fun l hl' => ?_)
        obtain ⟨g1, g2⟩ := looks_at hg hl hx
        obtain ⟨j, hj', hlj⟩ := List.mem_iff_getElem.1 hl'
        have hlen : j < ((opnds o.op).map a.eval).length := by rw [← g1]; exact hj'
        have hlk := g2 j l _ (by rw [List.getElem?_eq_getElem hj', hlj]) (List.getElem?_eq_getElem hlen)
        intro x hx'
        obtain ⟨t, xs⟩ := x
        obtain ⟨A, c, cs, _, h1, h2, _⟩ := slc_ok hg hlk hx'
        exact Nat.le_trans h1 h2
      · rename_i t x neg hk
        obtain ⟨l, hx, h⟩ := h
        obtain ⟨op, y, yt, ho, hn⟩ : ∃ op y yt, o.op = .binOp op t x y yt ∧ isNil op y = some neg := by
          cases ho : o.op <;> rw [ho] at hk <;> simp only [kd] at hk <;> try (cases hk; done)
          · split at hk
            · rename_i hn
              injection hk with h1 h2 h3
              subst h1 h2 h3
              exact ⟨_, _, _, rfl, hn⟩
            · cases hk
          · split at hk <;> cases hk
        refine wp_now hi hw (nil_wp ok (hN o (by simp)) hg hl ho hn hx h fun b hF V' a' g l => rest hF g l (fun k n hn' => ?_))
        rcases app_stamp hn' with ⟨p, hp, hs⟩ | h'
        · cases hd : o.dst <;> rw [hd] at hp <;> simp [dstUps] at hp
          subst hp
          simp [stampOf, owning, aliasOf] at hs
        · have := hb k n h'
          omega
      · rename_i f args ts hk
        obtain ⟨ls, hx, con, hcon, as, has, out, hout, h⟩ := h
        obtain ⟨ho⟩ : Nonempty (o.op = .call { callee := .value (.func f), args := args, argTypes := ts }) := by
          cases ho : o.op <;> rw [ho] at hk <;> simp only [kd] at hk <;> try (cases hk; done)
          · split at hk <;> cases hk
          · rename_i c
            obtain ⟨cal, as', ts'⟩ := c
            simp only at hk
            split at hk
            · cases hk
            · injection hk with h1 h2 h3
              subst h1 h2 h3
              exact ⟨rfl⟩
            · cases hk
        have hx' : looks st (opnds o.op) = some ls := by rw [ho]; exact hx
        unfold callK at h
        split at h
        · rename_i ch hr
          obtain ⟨p, hp, h⟩ := h
          obtain ⟨ch', ups⟩ := p
          obtain ⟨g1, g2⟩ := argsM_ok hg hl hx has
          obtain ⟨k0, k1, k2⟩ := callP_kept (m := m) hg hfr g1 g2 hout hp
          have hgo := hΓ f con hcon _ out _ w _ hout k1
          refine wp_now hi hw ?_
          unfold Oper.wp
          have hargs : args.map a.eval = (args.toList.map a.eval).toArray := by
            apply Array.ext'
            simp
          rcases hgo with ⟨g, gs, w1, r1, r2⟩ | ⟨hnp, _⟩
          · have : (execOp a.eval o).run P w = .ok (.enter g gs) w1 := by
              simp only [execOp, ho]
              simp [resolve, Deferred.ofValue, invoke, Act.eval, hargs, r1]
            rw [this, Oper.upon_enter]
            refine r2.mono fun e w' he => ?_
            obtain ⟨v, rfl, hv⟩ := he
            rw [k0]
            refine hQ _ _ V a w' h (k2 v w' hv) hl ⟨m + 1, fun k n hn => ?_⟩
            have hup : Stamped m ls ups := by
              unfold callP at hp
              split at hp
              · simp only [hout, k0] at hp
                split at hp
                · rename_i u hu
                  injection hp with hp
                  injection hp with _ hp
                  subst hp
                  obtain ⟨s1, s2⟩ := argsM_stamped has
                  refine .append ?_ (ioUps_stamped s2 hu)
                  split
                  · exact .low s1
                  · exact .nil
                · cases hp
              · cases hp
            rcases app_stamp hn with ⟨q, hq, hs⟩ | h'
            · rcases hup q hq n hs with h' | h'
              · omega
              · obtain ⟨k', hk'⟩ := looks_stamp hx h'
                have := hb k' n hk'
                omega
            · have := hb k n h'
              omega
          · rw [k0] at hnp; cases hnp
        · obtain ⟨ups, hs, h⟩ := h
          refine fin ups (.run hgd hx' ?_) h
          unfold step
          rw [ho]
          simp only [stepCall, hcon, has]
          exact hs
      · rename_i x hk
        obtain ⟨l, hx, h⟩ := h
        have ho : o.op = .panic x := by
          cases ho : o.op <;> rw [ho] at hk <;> simp only [kd] at hk <;> try (cases hk; done)
          · split at hk <;> cases hk
          · split at hk <;> cases hk
          · injection hk with hk; rw [hk]
        unfold panK at h
        split at h
        · rename_i T t v hs
          obtain ⟨hf, h⟩ := h
          have hr := (look_ok hg hl hx).rep
          rw [hs] at hr
          obtain ⟨u, hv, cs, hcs, hu⟩ := hr
          have : cs = fv t v := fv_rep hf hcs
          subst this
          refine wp_now hi hw ?_
          unfold Oper.wp
          have : (execOp a.eval o).run P w = .halt (.panic (ifcV T t v)) w := by
            have he : a.eval x = ifcV T t v := by rw [hv, hu]; rfl
            simp [execOp, ho, he, ifcV, Instr.panic, goPanic]
          rw [this, Oper.upon_panic]
          exact hQ _ _ V a w h hg hl ⟨m, hb⟩
        · exact h.elim
    simp only [ExL] at h
    cases hgd : gd ops st o with
    | run => rw [hgd] at h; exact run (.inl hgd) h
    | skip => rw [hgd] at h; exact fin _ (.skip (.inl hgd)) h
    | ask b want =>
      rw [hgd] at h
      by_cases e : b = want
      · subst e
        exact run (.inr ⟨_, hgd⟩) (h.1 (by simp))
      · exact fin _ (.skip (.inr ⟨_, _, hgd, e⟩)) (h.2 (by simpa using e))
    | lost => rw [hgd] at h; exact h.elim

theorem exit_then {next : Act → World → Prop} {Q : Exit → Act → World → Prop} {e : Exit} {a : Act} {w : World} (h1 : e = .normal → next a w) (h2 : e ≠ .normal → Q e a w) : Exit.then next Q e a w := by
  cases e <;> first | exact h1 rfl | exact h2 (by simp)

def Post (B : World) (R0 L : Nat → Prop) (N : Env) (Q : Exit → St → Prop) (e : Exit) (a : Act) (w : World) : Prop := ∃ st, Q e st ∧ Sim B R0 L N st a w

theorem cond_ok {st : St} {c : Operand} {b : Bool} (h : condOf st c = some b) (hg : Good B R0 L st V w) (hl : Link N V a) : a.eval c = .bool b := by
  unfold condOf at h
  split at h
  · rename_i b' hs
    injection h with h
    subst h
    have hlk : look st c = some ⟨.val .bool b', .dead⟩ := by simp [look, hs, aliasOf]
    exact vrep_bool (look_ok hg hl hlk).rep
  · cases h

/-! ### Any order -/
def sub (S : Nat → Bool) : Nat → List Ups → St → St
  | _, [], st => st
  | i, u :: us, st => sub S (i + 1) us (if S i = true then app u st else st)

theorem app_at {u : Ups} {st st' : St} {k : Nat} (h : st k = st' k) : app u st k = app u st' k := by
  induction u generalizing st st' with
  | nil => exact h
  | cons p u ih =>
    rw [app_cons, app_cons]
    refine ih ?_
    by_cases e : k = p.1
    · subst e; rw [put_same, put_same]
    · rw [put_ne _ _ e, put_ne _ _ e]; exact h

theorem app_key_at {u : Ups} {st st' : St} {k : Nat} (h : k ∈ keys u) : app u st k = app u st' k := by
  induction u generalizing st st' with
  | nil => simp [keys] at h
  | cons p u ih =>
    rw [app_cons, app_cons]
    by_cases e : k ∈ keys u
    · exact ih e
    · have : k = p.1 := by simpa [keys] using (List.mem_cons.1 (by simpa [keys] using h) : k = p.1 ∨ k ∈ u.map (·.1)).resolve_right (by simpa [keys] using e)
      subst this
      exact app_at (by rw [put_same, put_same])

theorem app_out {u : Ups} {st : St} {k : Nat} (h : k ∉ keys u) : app u st k = st k :=
  app_other (fun p hp e => h (by rw [← e]; exact List.mem_map_of_mem hp))

theorem sub_agree {S T : Nat → Bool} {k : Nat} : ∀ {us : List Ups} {i : Nat} {st st' : St}, (∀ j u, us[j]? = some u → S (i + j) ≠ T (i + j) → k ∉ keys u) → st k = st' k → sub S i us st k = sub T i us st' k
  | [], i, st, st', h, e => e
  | u :: us, i, st, st', h, e => by
    simp only [sub]
    refine sub_agree (fun j v hv hne => h (j + 1) v (by simpa using hv) (by rwa [show i + (j + 1) = i + 1 + j by omega])) ?_
    have h0 := h 0 u rfl
    simp only [Nat.add_zero] at h0
    cases hS : S i <;> cases hT : T i <;> simp only [if_true, if_false, Bool.false_eq_true] 
    · exact e
    · rw [app_out (h0 (by rw [hS, hT]; simp))]; exact e
    · rw [app_out (h0 (by rw [hS, hT]; simp))]; exact e
    · exact app_at e

/-- One more has run. -/
theorem sub_more {S : Nat → Bool} {us : List Ups} {st : St} {i : Nat} {u : Ups} (hu : us[i]? = some u) (hi : S i = false) (hd : ∀ j v, us[j]? = some v → i < j → S j = true → ∀ k ∈ keys u, k ∉ keys v) :
    sub (fun j => decide (j = i) || S j) 0 us st = app u (sub S 0 us st) := by
  have key : ∀ (us : List Ups) (b : Nat) (st : St) (u : Ups) (p : Nat), us[p]? = some u → b + p = i → (∀ j v, us[j]? = some v → p < j → S (b + j) = true → ∀ k ∈ keys u, k ∉ keys v) →
      sub (fun j => decide (j = i) || S j) b us st = app u (sub S b us st) := by
    intro us
    induction us with
    | nil => intro b st u p h; simp at h
    | cons x us ih =>
      intro b st u p hp hb hq
      simp only [sub]
      cases p with
      | zero =>
        simp only [List.getElem?_cons_zero, Option.some.injEq] at hp
        subst hp
        have hbi : b = i := by omega
        subst hbi
        simp only [decide_true, Bool.true_or, if_true, hi, Bool.false_eq_true, if_false]
        funext k
        by_cases hk : k ∈ keys x
        · rw [app_key_at (st' := st) hk]
          have : sub (fun j => decide (j = b) || S j) (b + 1) us (app x st) k = sub (fun _ => false) (b + 1) us (app x st) k := by
            refine sub_agree (fun j v hv hne => ?_) rfl
            refine hq (j + 1) v (by simpa using hv) (by omega) ?_ k hk
            have hne' : (decide (b + 1 + j = b) || S (b + 1 + j)) ≠ false := hne
            simp only [show ¬ (b + 1 + j = b) by omega, decide_false, Bool.false_or] at hne'
            rw [show b + (j + 1) = b + 1 + j by omega]
            simpa using hne'
          rw [this]
          have none_ : ∀ (us : List Ups) (b : Nat) (st : St), sub (fun _ => false) b us st = st := by
            intro us
            induction us with
            | nil => intro b st; rfl
            | cons x us ih => intro b st; simp only [sub, Bool.false_eq_true, if_false]; exact ih _ _
          rw [none_]
        · rw [app_out hk]
          refine sub_agree (fun j v hv hne => ?_) (app_out hk)
          exfalso
          apply hne
          simp only [show ¬ (b + 1 + j = b) by omega, decide_false, Bool.false_or]
      | succ p =>
        have hbi : ¬ (b = i) := by omega
        simp only [hbi, decide_false, Bool.false_or]
        refine ih (b + 1) _ u p (by simpa using hp) (by omega) (fun j v hv hj hS => ?_)
        exact hq (j + 1) v (by simpa using hv) (by omega) (by rwa [show b + (j + 1) = b + 1 + j by omega])
  exact key us 0 st u i hu (by omega) (by simpa using hd)

end
end Go.Tm

/- Regions whose order is drawn: where operations that no edge orders keep out of each other's way, every order ends as the text's. -/
set_option linter.unusedVariables false
set_option linter.unusedSimpArgs false
namespace Go.Tm

theorem sub_none : ∀ (us : List Ups) (b : Nat) (st : St), sub (fun _ => false) b us st = st
  | [], b, st => rfl
  | x :: us, b, st => by simp only [sub, Bool.false_eq_true, if_false]; exact sub_none us _ _

theorem sub_shift {S : Nat → Bool} : ∀ (us : List Ups) (b : Nat) (st : St), sub S (b + 1) us st = sub (fun j => S (j + 1)) b us st
  | [], b, st => rfl
  | x :: us, b, st => by simp only [sub]; exact sub_shift us _ _

theorem sub_congr {S T : Nat → Bool} : ∀ {us : List Ups} {b : Nat} {st : St}, (∀ j, j < us.length → S (b + j) = T (b + j)) → sub S b us st = sub T b us st
  | [], b, st, h => rfl
  | x :: us, b, st, h => by
    simp only [sub]
    have h0 := h 0 (by simp)
    simp only [Nat.add_zero] at h0
    rw [h0]
    exact sub_congr (fun j hj => by
      have := h (j + 1) (by simp; omega)
      rwa [show b + (j + 1) = b + 1 + j by omega] at this)

theorem count_less {p q : Nat → Bool} {i : Nat} : ∀ {l : List Nat}, (∀ j, p j = true → q j = true) → i ∈ l → q i = true → p i = false → l.countP p < l.countP q
  | [], _, h, _, _ => by simp at h
  | x :: l, hpq, h, hq, hp => by
    have hle : l.countP p ≤ l.countP q := List.countP_mono_left (fun j _ => hpq j)
    simp only [List.countP_cons]
    by_cases e : i = x
    · subst e
      simp only [hq, hp, if_true, Bool.false_eq_true, if_false]
      omega
    · have := count_less hpq ((List.mem_cons.1 h).resolve_left e) hq hp
      cases hx : p x with
      | false => simp only [Bool.false_eq_true, if_false]; split <;> omega
      | true => simp only [hpq x hx, if_true]; omega

section
variable {P : Program} {tab : Tab} {Γ : Cons} {B : World} {R0 L : Nat → Prop} {st : St} {V : Nat → Value} {w : World} {N : Env} {a : Act} {o : Oper} {ups : Ups} {m : Nat} {ls : List Lk} {ops : Array Oper}

theorem run_at : ∀ {l : List Oper} {m : Nat} {st : St} {us : List (List Nat × Ups)} {st' : St}, RunT tab Γ ops l m st us st' →
    us.length = l.length ∧ st' = sub (fun _ => true) 0 (us.map (·.2)) st ∧
    ∀ i o, l[i]? = some o → ∃ u, us[i]? = some (rds ops (sub (fun j => decide (j < i)) 0 (us.map (·.2)) st) o, u) ∧ OpDone tab Γ ops o (m + i) (sub (fun j => decide (j < i)) 0 (us.map (·.2)) st) u
  | [], m, st, us, st', h => by
    cases h
    exact ⟨rfl, rfl, fun i o h => by simp at h⟩
  | o :: r, m, st, us, st', h => by
    cases h with
    | cons hd h =>
      obtain ⟨h1, h2, h3⟩ := run_at h
      refine ⟨by simpa using h1, ?_, fun i o' hi => ?_⟩
      · simp only [List.map_cons, sub, if_true]
        rw [h2, sub_shift]
      · cases i with
        | zero =>
          simp only [List.getElem?_cons_zero, Option.some.injEq] at hi
          subst hi
          have e : (fun j => decide (j < 0)) = fun _ => false := by funext j; simp
          rw [e, sub_none]
          exact ⟨_, rfl, by simpa using hd⟩
        | succ i =>
          obtain ⟨u', g1, g2⟩ := h3 i o' (by simpa using hi)
          simp only [List.map_cons, sub, Nat.zero_lt_succ, decide_true, if_true, sub_shift, Nat.add_lt_add_iff_right]
          exact ⟨u', by simpa using g1, by rw [show m + (i + 1) = m + 1 + i by omega]; exact g2⟩

theorem look_agree {st st2 : St} {x : Operand} (h : ∀ k ∈ rd1 st x, st k = st2 k) : look st2 x = look st x := by
  cases x with
  | tmp t =>
    have h0 : st t = st2 t := h t (by simp [rd1])
    simp only [look, ref]
    split
    case isFalse => rfl
    simp only [Option.map_some, ← h0, Option.some.injEq, Lk.mk.injEq, true_and]
    cases hs : st t with
    | own n ty xs => simp only [self, aliasOf]; rw [← h0]
    | obj n ty x => simp only [self, aliasOf]; rw [← h0]
    | asl n s rg =>
      simp only [self, aliasOf]
      exact (h s (by simp [rd1, hs, aliasOf])).symm
    | apt n s p =>
      simp only [self, aliasOf]
      exact (h s (by simp [rd1, hs, aliasOf])).symm
    | _ => rfl
  | const v =>
    simp only [look, ref]
    cases hv : cst v with
    | none => rfl
    | some s =>
      simp only [Option.map_some, (cst_low hv).2]
  | global g => rfl
  | func f => rfl

theorem looks_agree {st st2 : St} : ∀ {xs : List Operand}, (∀ k ∈ (xs.map (rd1 st)).flatten, st k = st2 k) → looks st2 xs = looks st xs
  | [], h => rfl
  | x :: xs, h => by
    simp only [List.map_cons, List.flatten_cons, List.mem_append] at h
    simp only [looks, look_agree (fun k hk => h k (.inl hk)), looks_agree (fun k hk => h k (.inr hk))]

theorem gd_agree {st st2 : St} (h : ∀ k ∈ rds ops st o, st k = st2 k) : gd ops st2 o = gd ops st o := by
  unfold gd
  cases hg : o.guard with
  | none => rfl
  | some p =>
    obtain ⟨j, want⟩ := p
    simp only
    cases ht : gtmp ops j with
    | none => rfl
    | some t =>
      have : st t = st2 t := h t (by simp [rds, hg, ht])
      simp only [this]

theorem done_agree {st st2 : St} (h : ∀ k ∈ rds ops st o, st k = st2 k) (hd : OpDone tab Γ ops o m st ups) : OpDone tab Γ ops o m st2 ups := by
  have hg := gd_agree h
  cases hd with
  | @run ls ups hr hx hs =>
    cases hsh : shallow o.op with
    | false =>
      refine .run (by rw [hg]; exact hr) ?_ hs
      rw [looks_agree (fun k hk => h k (by
        simp only [rds, List.mem_append, hsh]
        refine .inr ?_
        have e : rd2 false st = rd1 st := by funext x; rfl
        rw [e]; exact hk))]
      exact hx
    | true =>
      obtain ⟨x, hox⟩ : ∃ x, o.op = .move x := by
        cases ho : o.op <;> rw [ho] at hsh <;> first | exact ⟨_, rfl⟩ | cases hsh
      have hx2 : opnds o.op = [x] := by rw [hox]; rfl
      rw [hx2] at hx
      obtain ⟨l, rfl⟩ : ∃ l, ls = [l] := by
        simp only [looks] at hx
        split at hx
        · rename_i l ls' h1 h2
          injection h2 with h2
          injection hx with hx
          exact ⟨l, by rw [← hx, ← h2]⟩
        · cases hx
      have hl := looks_one hx
      have href : ∃ c, look st2 x = some ⟨l.s, c⟩ := by
        cases x with
        | tmp t =>
          have h0 : st t = st2 t := h t (by simp only [rds, List.mem_append, hsh, hx2]; exact .inr (by simp [rd2]))
          simp only [look, ref] at hl ⊢
          split at hl
          case isFalse => cases hl
          rename_i hg
          rw [if_pos hg]
          simp only [Option.map_some, Option.some.injEq] at hl ⊢
          rw [← h0, ← hl]
          exact ⟨_, rfl⟩
        | const v =>
          refine ⟨l.c, ?_⟩
          simp only [look, ref] at hl ⊢
          cases hv : cst v with
          | none => rw [hv] at hl; cases hl
          | some s =>
            rw [hv] at hl
            simp only [Option.map_some, (cst_low hv).2] at hl ⊢
            exact hl
        | global g => cases hl
        | func f =>
          simp only [look, ref] at hl ⊢
          injection hl with hl
          exact ⟨.dead, by rw [← hl]; rfl⟩
      obtain ⟨c, hc⟩ := href
      refine .run (ls := [⟨l.s, c⟩]) (by rw [hg]; exact hr) ?_ ?_
      · rw [hx2]; simp [looks, hc]
      · unfold step at hs ⊢
        rw [hox] at hs ⊢
        exact hs
  | skip hr => exact .skip (by rw [hg]; exact hr)

/-! ### Edges -/
def edges (o : Oper) : List Nat := (o.after.toList.filter (Region.binds .any)).map (·.on)

theorem clo_spec : ∀ {l : List Oper} {acc cl : List (List Nat)}, clo l acc = some cl → (∃ t, cl = acc ++ t) ∧ cl.length = acc.length + l.length ∧
    ∀ j o, l[j]? = some o → (∀ e ∈ edges o, e < acc.length + j) ∧ cl.getD (acc.length + j) [] = edges o ++ ((edges o).map fun e => cl.getD e []).flatten
  | [], acc, cl, h => by
    simp only [clo, Option.some.injEq] at h
    subst h
    exact ⟨⟨[], by simp⟩, by simp, fun j o h => by simp at h⟩
  | o :: r, acc, cl, h => by
    simp only [clo] at h
    split at h
    · rename_i hes
      obtain ⟨⟨t, ht⟩, h1, h2⟩ := clo_spec h
      have hlt : ∀ e ∈ edges o, e < acc.length := by
        intro e he
        have := List.all_eq_true.1 hes e he
        simpa using this
      refine ⟨⟨_, by rw [ht, List.append_assoc]⟩, by simp at h1; simp; omega, fun j o' hj => ?_⟩
      cases j with
      | zero =>
        simp only [List.getElem?_cons_zero, Option.some.injEq] at hj
        subst hj
        refine ⟨fun e he => by have := hlt e he; omega, ?_⟩
        have : cl.getD (acc.length + 0) [] = edges o ++ ((edges o).map fun e => acc.getD e []).flatten := by
          rw [ht]
          simp [List.getD_eq_getElem?_getD, edges]
        rw [this]
        congr 2
        apply List.map_congr_left
        intro e he
        rw [ht]
        simp only [List.getD_eq_getElem?_getD]
        rw [List.append_assoc, List.getElem?_append_left (hlt e he)]
      | succ j =>
        obtain ⟨g1, g2⟩ := h2 j o' (by simpa using hj)
        simp only [List.length_append, List.length_cons, List.length_nil] at g1 g2
        refine ⟨fun e he => by have := g1 e he; omega, ?_⟩
        rw [show acc.length + (j + 1) = acc.length + (0 + 1) + j by omega]
        exact g2
    · cases h

theorem clo_closed {cl : List (List Nat)} (h : clo ops.toList [] = some cl) {S : Nat → Bool} (hS : ∀ j o, S j = true → ops[j]? = some o → ∀ e ∈ edges o, S e = true) (hin : ∀ j, S j = true → j < ops.size) :
    ∀ j, S j = true → ∀ i ∈ cl.getD j [], S i = true := by
  intro j
  induction j using Nat.strongRecOn with
  | _ j ih =>
    intro hj i hi
    obtain ⟨_, h1, h2⟩ := clo_spec h
    have hlt := hin j hj
    have ho : ops.toList[j]? = some ops[j] := by simp [hlt]
    have ho' : ops[j]? = some ops[j] := by simp [hlt]
    obtain ⟨g1, g2⟩ := h2 j _ ho
    simp only [List.length_nil, Nat.zero_add] at g1 g2
    rw [g2] at hi
    rcases List.mem_append.1 hi with hi | hi
    · exact hS j _ hj ho' i hi
    · obtain ⟨l, hl, hil⟩ := List.mem_flatten.1 hi
      obtain ⟨e, he, rfl⟩ := List.mem_map.1 hl
      exact ih e (g1 e he) (hS j _ hj ho' e he) i hil

theorem apart_iff {x y : List Nat} (h : Go.Tm.apart x y = true) : ∀ k ∈ x, k ∉ y := by
  intro k hk
  have := List.all_eq_true.1 h k hk
  simpa using this

def isOn (listed : Array Bool) (i : Nat) : Bool := listed.getD i false

theorem on_set {listed : Array Bool} {i : Nat} (hi : i < listed.size) : isOn (listed.setIfInBounds i true) = fun j => decide (j = i) || isOn listed j := by
  funext j
  unfold isOn
  simp only [Array.getD_eq_getD_getElem?, Array.getElem?_setIfInBounds]
  by_cases e : i = j
  · subst e
    simp [hi]
  · have : ¬ (j = i) := fun h => e h.symm
    simp [e, this]

theorem any_ops (ok : TabOK P tab) (hΓ : ConsOK P Γ) {Q : Exit → Act → World → Prop} {us : List (List Nat × Ups)} {st st' : St} (hN : ∀ o ∈ ops.toList, ∀ k, o.dst = some k → k < N.n) (hr : RunT tab Γ ops ops.toList m st us st')
    (hI : Indep ops (us.map fun x => (x.1, keys x.2))) (hQ : ∀ V' a' w', Good B R0 L st' V' w' → Link N V' a' → (∃ b, Bnd b st') → Q .normal a' w') :
    ∀ (fuel : Nat) (listed : Array Bool) (V : Nat → Value) (a : Act) (w : World), listed.size = ops.size → (List.range ops.size).countP (fun i => !isOn listed i) ≤ fuel →
      (∀ j o, isOn listed j = true → ops[j]? = some o → ∀ e ∈ edges o, isOn listed e = true) →
      (∀ k n, stampOf (sub (isOn listed) 0 (us.map (·.2)) st k) = some n → n < m ∨ ∃ j, isOn listed j = true ∧ n = m + j) →
      Good B R0 L (sub (isOn listed) 0 (us.map (·.2)) st) V w → Link N V a → wpAny P .any ops Q fuel listed a w := by
  obtain ⟨r1, r2, r3⟩ := run_at hr
  unfold Indep indep at hI
  split at hI
  case h_2 => cases hI
  rename_i cl hcl
  obtain ⟨_, c1, c2⟩ := clo_spec hcl
  simp only [List.length_nil, Nat.zero_add] at c1 c2
  have hsz : us.length = ops.size := by rw [r1, Array.length_toList]
  -- when all have run
  have hall : ∀ (listed : Array Bool) (V : Nat → Value) (a : Act) (w : World), (∀ i, i < ops.size → isOn listed i = true) →
      (∀ k n, stampOf (sub (isOn listed) 0 (us.map (·.2)) st k) = some n → n < m ∨ ∃ j, isOn listed j = true ∧ n = m + j) → listed.size = ops.size →
      Good B R0 L (sub (isOn listed) 0 (us.map (·.2)) st) V w → Link N V a → Q .normal a w := by
    intro listed V a w hon hst hls hg hl
    have e : sub (isOn listed) 0 (us.map (·.2)) st = st' := by
      rw [r2]
      refine sub_congr (fun j hj => ?_)
      simp only [Nat.zero_add]
      exact hon j (by simpa [hsz] using hj)
    rw [e] at hg hst
    refine hQ V a w hg hl ⟨m + ops.size, fun k n hn => ?_⟩
    rcases hst k n hn with h | ⟨j, hj, rfl⟩
    · omega
    · have : j < ops.size := by
        rcases Nat.lt_or_ge j ops.size with h | h
        · exact h
        · rw [← hls] at h
          simp [isOn, Array.getD_eq_getD_getElem?, h] at hj
      omega
  have hready : ∀ (listed : Array Bool), listed.size = ops.size → Region.ready .any ops listed = [] → ∀ i, i < ops.size → isOn listed i = true := by
    intro listed hls h0 i
    induction i using Nat.strongRecOn with
    | _ i ih =>
      intro hi
      rcases hb : isOn listed i with _ | _
      · exfalso
        have : i ∈ Region.ready .any ops listed := by
          refine mem_ready.2 ⟨?_, ops[i], by simp [hi], fun e he hbd => ?_⟩
          · have hi' : i < listed.size := by omega
            simpa [isOn, Array.getD_eq_getD_getElem?, hi'] using hb
          · have := (c2 i ops[i] (by simp [hi])).1 e.on (by
              unfold edges
              exact List.mem_map.2 ⟨e, List.mem_filter.2 ⟨by simpa using he, hbd⟩, rfl⟩)
            exact ih e.on this (by omega)
        rw [h0] at this
        cases this
      · rfl
  intro fuel
  induction fuel with
  | zero =>
    intro listed V a w hls hcnt hcl' hst hg hl
    have hon : ∀ i, i < ops.size → isOn listed i = true := by
      intro i hi
      have h0 : (List.range ops.size).countP (fun i => !isOn listed i) = 0 := by omega
      have := List.countP_eq_zero.1 h0 i (List.mem_range.2 hi)
      simpa using this
    refine ⟨?_, hall listed V a w hon hst hls hg hl⟩
    apply List.eq_nil_iff_forall_not_mem.2
    intro i hi
    obtain ⟨h0, o, ho, _⟩ := mem_ready.1 hi
    have hlt : i < ops.size := (Array.getElem?_eq_some_iff.1 ho).1
    have h1 := hon i hlt
    have hlt' : i < listed.size := by omega
    simp [isOn, Array.getD_eq_getD_getElem?, hlt'] at h0 h1
    rw [h0] at h1
    cases h1
  | succ fuel ih =>
    intro listed V a w hls hcnt hcl' hst hg hl
    refine ⟨fun h0 => hall listed V a w (hready listed hls h0) hst hls hg hl, fun i hi => ?_⟩
    obtain ⟨h0, o, ho, hedge⟩ := mem_ready.1 hi
    have hlt : i < ops.size := (Array.getElem?_eq_some_iff.1 ho).1
    have hlt' : i < listed.size := by omega
    have hoff : isOn listed i = false := by simpa [isOn, Array.getD_eq_getD_getElem?, hlt'] using h0
    obtain ⟨u, hu, hd⟩ := r3 i o (by simpa using ho)
    have hu2 : (us.map (·.2))[i]? = some u := by rw [List.getElem?_map, hu]; rfl
    -- what keeps apart
    have hpair : ∀ i' j', i' < j' → j' < ops.size → pairOK cl (us.map fun x => (x.1, keys x.2)) i' j' = true := by
      intro i' j' h1 h2
      have := List.all_eq_true.1 hI j' (List.mem_range.2 h2)
      exact List.all_eq_true.1 this i' (List.mem_range.2 h1)
    have hin : ∀ j, isOn listed j = true → j < ops.size := by
      intro j hj
      rcases Nat.lt_or_ge j ops.size with h | h
      · exact h
      · rw [← hls] at h
        simp [isOn, Array.getD_eq_getD_getElem?, h] at hj
    have hclosed := clo_closed hcl hcl' hin
    have hS' : ∀ j o', (decide (j = i) || isOn listed j) = true → ops[j]? = some o' → ∀ e ∈ edges o', (decide (e = i) || isOn listed e) = true := by
      intro j o' hj hj' e he
      rcases Bool.or_eq_true _ _ ▸ hj with hj | hj
      · have : j = i := by simpa using hj
        subst this
        rw [ho] at hj'
        injection hj' with hj'
        subst hj'
        obtain ⟨e', he', rfl⟩ := List.mem_map.1 he
        obtain ⟨q1, q2⟩ := List.mem_filter.1 he'
        have := hedge e' (by simpa using q1) q2
        simp [isOn, this]
      · simp [hcl' j o' hj hj' e he]
    have hin' : ∀ j, (decide (j = i) || isOn listed j) = true → j < ops.size := by
      intro j hj
      rcases Bool.or_eq_true _ _ ▸ hj with hj | hj
      · have : j = i := by simpa using hj
        omega
      · exact hin j hj
    have hclosed' := clo_closed hcl hS' hin'
    have htr : ∀ j v, us[j]? = some v → (us.map fun x => (x.1, keys x.2)).getD j ([], []) = (v.1, keys v.2) := by
      intro j v hv
      simp [List.getD_eq_getElem?_getD, List.getElem?_map, hv]
    have hagree : ∀ k ∈ rds ops (sub (fun j => decide (j < i)) 0 (us.map (·.2)) st) o, sub (fun j => decide (j < i)) 0 (us.map (·.2)) st k = sub (isOn listed) 0 (us.map (·.2)) st k := by
      intro k hk
      refine sub_agree (fun j v hv hne => ?_) rfl
      simp only [Nat.zero_add] at hne
      rw [List.getElem?_map, Option.map_eq_some_iff] at hv
      obtain ⟨x, hx, rfl⟩ := hv
      have hjl : j < ops.size := by rw [← hsz]; exact (List.getElem?_eq_some_iff.1 hx).1
      rcases Nat.lt_trichotomy j i with hlt2 | heq | hgt
      · have hoffj : isOn listed j = false := by
          cases hb : isOn listed j with
          | false => rfl
          | true => rw [hb] at hne; simp [hlt2] at hne
        have := hpair j i hlt2 hlt
        unfold pairOK at this
        rw [htr j x hx, htr i _ hu] at this
        simp only [Bool.or_eq_true, Bool.and_eq_true] at this
        rcases this with h | ⟨⟨h, _⟩, _⟩
        · have := hclosed' i (by simp) j (by simpa using h)
          simp only [show ¬ (j = i) by omega, decide_false, Bool.false_or, hoffj] at this
          cases this
        · exact fun hkj => apart_iff h k hkj hk
      · subst heq
        rw [hoff] at hne
        simp at hne
      · have honj : isOn listed j = true := by
          cases hb : isOn listed j with
          | true => rfl
          | false => rw [hb] at hne; simp [show ¬ (j < i) by omega] at hne
        have := hpair i j hgt hjl
        unfold pairOK at this
        rw [htr j x hx, htr i _ hu] at this
        simp only [Bool.or_eq_true, Bool.and_eq_true] at this
        rcases this with h | ⟨_, h⟩
        · have := hclosed j honj i (by simpa using h)
          rw [hoff] at this
          cases this
        · exact apart_iff h k hk
    have hd' := done_agree hagree hd
    have hmore : sub (isOn (listed.setIfInBounds i true)) 0 (us.map (·.2)) st = app u (sub (isOn listed) 0 (us.map (·.2)) st) := by
      rw [on_set hlt']
      refine sub_more hu2 hoff (fun j v hv hij hon k hk => ?_)
      rw [List.getElem?_map, Option.map_eq_some_iff] at hv
      obtain ⟨x, hx, rfl⟩ := hv
      have hjl : j < ops.size := by rw [← hsz]; exact (List.getElem?_eq_some_iff.1 hx).1
      have := hpair i j hij hjl
      unfold pairOK at this
      rw [htr j x hx, htr i _ hu] at this
      simp only [Bool.or_eq_true, Bool.and_eq_true] at this
      rcases this with h | ⟨⟨_, h⟩, _⟩
      · have := hclosed j hon i (by simpa using h)
        rw [hoff] at this
        cases this
      · exact apart_iff h k hk
    refine done_wp ok hΓ ho (hN o (by simpa using Array.mem_of_getElem? ho)) hg hl (fun k n s ha e => ?_) hd' fun V' a' w' g l => ?_
    · rcases hst k n (alias_stamp ha) with h | ⟨j, hj, h⟩
      · omega
      · have : j = i := by omega
        subst this
        rw [hoff] at hj
        cases hj
    · refine ih (listed.setIfInBounds i true) V' a' w' (by simpa using hls) ?_ ?_ ?_ ?_ l
      · rw [on_set hlt']
        have hlt3 : (List.range ops.size).countP (fun j => !(decide (j = i) || isOn listed j)) < (List.range ops.size).countP (fun j => !isOn listed j) := by
          exact count_less (fun j h => by simp at h; simp [h.2]) (List.mem_range.2 hlt) (by simp [hoff]) (by simp)
        exact Nat.le_of_lt_succ (Nat.lt_of_lt_of_le hlt3 hcnt)
      · rw [on_set hlt']
        exact hS'
      · rw [hmore, on_set hlt']
        intro k n hn
        rcases done_bnd hd' hn with h | ⟨k', h⟩
        · exact .inr ⟨i, by simp, h⟩
        · rcases hst k' n h with h | ⟨j, hj, h⟩
          · exact .inl h
          · exact .inr ⟨j, by simp [hj], h⟩
      · rw [hmore]
        exact g

end
end Go.Tm

/- From a body's Ex to what a call of it promises. -/
set_option linter.unusedVariables false
set_option linter.unusedSimpArgs false
namespace Go.Tm

section
variable {P : Program} {tab : Tab} {Γ : Cons} {B : World} {R0 L : Nat → Prop} {st : St} {V : Nat → Value} {w : World} {N : Env} {a : Act} {o : Oper} {ups : Ups} {m : Nat} {ls : List Lk} {ops : Array Oper}

theorem Good.drew (hg : Good B R0 L st V w) (n : Nat) : Good B R0 L st V { w with drawn := n } :=
  hg.change (fun _ => False) rfl rfl rfl (Nat.le_refl _) (fun _ _ _ => rfl) (fun _ _ => ⟨rfl, rfl⟩) (fun _ _ h => h.elim) (fun _ _ h => h.elim) (fun _ _ _ h => h.elim) (fun _ _ _ _ h => h.elim)

theorem least {p : Nat → Prop} (h : ∃ n, p n) : ∃ n, p n ∧ ∀ k, p k → n ≤ k := by
  obtain ⟨n, hn⟩ := h
  induction n using Nat.strongRecOn with
  | _ n ih =>
    by_cases e : ∃ k, k < n ∧ p k
    · obtain ⟨k, hk, hp⟩ := e
      exact ih k hk hp
    · exact ⟨n, hn, fun k hk => Nat.le_of_not_lt (fun hlt => e ⟨k, hlt, hk⟩)⟩

theorem ex_sound (ok : TabOK P tab) (hΓ : ConsOK P Γ) (hm : P.follows .mixedOrders = true) : ∀ (c : Code) (Q : Exit → St → Prop) (st : St) (a : Act) (w : World), fits N.n c = true → Ex tab Γ c Q st → Sim B R0 L N st a w → c.wp P (Post B R0 L N Q) a w := by
  intro c
  induction c with
  | skip => intro Q st a w _ h hs; exact wp_skip ⟨st, h, hs⟩
  | region id ops draw =>
    intro Q st a w hfit h hs
    obtain ⟨V, b, hg, hl, hb⟩ := (hs.sealR tab ops).out
    have hN : ∀ o ∈ ops.toList, ∀ k, o.dst = some k → k < N.n := by
      intro o ho k hk
      simp only [fits, Array.all_eq_true_iff_forall_mem] at hfit
      have := hfit o (by simpa using ho)
      simpa [hk] using this
    cases draw with
    | false =>
      simp only [Ex] at h
      refine wp_region ?_
      rw [List.range_eq_range']
      refine text_ops (L := L) (R0 := R0) (B := B) ok hΓ (l := ops.toList) (fun j => by simp) hN (h b) hg hl hb fun e st' V' a' w' h2 g l hb' => ?_
      obtain ⟨b', hb'⟩ := hb'
      exact ⟨st', h2, V', b', g, l, hb'⟩
    | true =>
      simp only [Ex] at h
      obtain ⟨us, st', h1, hi, h2⟩ := exOps_run (h b)
      refine wp_region_any hm ?_
      have hoff : isOn (Array.replicate ops.size false) = fun _ => false := by
        funext j
        simp only [isOn, Array.getD_eq_getD_getElem?, Array.getElem?_replicate]
        split <;> rfl
      refine any_ops (L := L) (R0 := R0) (B := B) ok hΓ hN h1 (by simpa using hi) (fun V' a' w' g l hb' => ?_) ops.size _ V a _ (by simp) ?_ ?_ ?_ ?_ hl
      · obtain ⟨b', hb'⟩ := hb'
        exact ⟨st', h2, V', b', g, l, hb'⟩
      · exact Nat.le_trans List.countP_le_length (by simp)
      · intro j o hj
        rw [hoff] at hj
        cases hj
      · rw [hoff, sub_none]
        exact fun k n hn => .inl (hb k n hn)
      · rw [hoff, sub_none]
        exact hg.drew _
  | seq x y ihx ihy =>
    intro Q st a w hfit h hs
    simp only [fits, Bool.and_eq_true] at hfit
    simp only [Ex] at h
    refine wp_seq (wp_mono (ihx _ st a w hfit.1 h hs) ?_)
    rintro e a' w' ⟨st', hq, hs'⟩
    cases e with
    | normal => exact ihy _ st' a' w' hfit.2 hq hs'
    | _ => exact ⟨st', hq, hs'⟩
  | cond c x y ihx ihy =>
    intro Q st a w hfit h hs
    simp only [fits, Bool.and_eq_true] at hfit
    simp only [Ex] at h
    split at h
    · rename_i b hb
      obtain ⟨V, _, hg, hl, _⟩ := hs.out
      exact wp_cond_split (cond_ok hb hg hl) (fun e => ihx _ st a w hfit.1 (h.1 e) hs) (fun e => ihy _ st a w hfit.2 (h.2 e) hs)
    · exact h.elim
  | block id x ih =>
    intro Q st a w hfit h hs
    simp only [Ex] at h
    refine wp_block (wp_mono (ih _ st a w hfit h hs) ?_)
    rintro e a' w' ⟨st', hq, hs'⟩
    cases e with
    | exit j =>
      simp only at hq
      simp only [Exit.inBlock]
      split at hq
      · rename_i hj; rw [if_pos hj]; exact ⟨st', hq, hs'⟩
      · rename_i hj; rw [if_neg hj]; exact ⟨st', hq, hs'⟩
    | _ => exact ⟨st', hq, hs'⟩
  | loop x ih =>
    intro Q st a w hfit h hs
    simp only [Ex] at h
    obtain ⟨F, G, F2, h⟩ := h
    obtain ⟨V0, b0, hg0, hl0, hb0⟩ := (hs.seals (F := F)).out
    obtain ⟨I, ⟨n, hI⟩, hround⟩ := h b0
    classical
    refine wp_loop (fun a w => ∃ n st, I n st ∧ Sim B R0 L N st a w) (fun a w => if h : ∃ n, ∃ st, I n st ∧ Sim B R0 L N st a w then Classical.choose (least h) else 0) ⟨n, _, hI, (Sim.opens hl0 hg0 hb0).seals⟩ ?_
    intro a w hex
    obtain ⟨⟨st1, hI1, hs1⟩, hmin⟩ := Classical.choose_spec (least (p := fun n => ∃ st, I n st ∧ Sim B R0 L N st a w) hex)
    refine wp_mono (ih _ st1 a w hfit (hround _ st1 hI1) hs1) ?_
    rintro e a' w' ⟨st', hq, hs'⟩
    cases e with
    | normal =>
      obtain ⟨k, hk, hIk⟩ := hq
      refine ⟨⟨k, st', hIk, hs'⟩, ?_⟩
      have hex' : ∃ n, ∃ st, I n st ∧ Sim B R0 L N st a' w' := ⟨k, st', hIk, hs'⟩
      rw [dif_pos hex, dif_pos hex']
      exact Nat.lt_of_le_of_lt ((Classical.choose_spec (least (p := fun n => ∃ st, I n st ∧ Sim B R0 L N st a' w') hex')).2 k ⟨st', hIk, hs'⟩) hk
    | _ => exact ⟨st', hq, hs'⟩
  | exit id => intro Q st a w _ h hs; exact wp_exit ⟨st, h, hs⟩
  | label l => intro Q st a w _ h hs; exact wp_label ⟨st, h, hs⟩
  | ret => intro Q st a w _ h hs; exact wp_ret ⟨st, h, hs⟩
  | rangeFunc => intro Q st a w _ h hs; exact h.elim
  | scope => intro Q st a w _ h hs; exact h.elim
  | goto => intro Q st a w _ h hs; exact h.elim
  | refuse => intro Q st a w _ h hs; exact h.elim


/-! ### Where a call begins -/
def ini (args : List Arg) (k : Nat) : Slot :=
  if k < ghost then
    match args[k]? with
    | some (.val d) => .val d.1 d.2
    | some (.obj d) => .apt k (ghost + k) []
    | some (.ptr d) => .rpt d.1 d.2
    | some (.row t xs) => .asl k (ghost + k) none
    | some (.clo f l) => .clo f l
    | some .ask => .dead
    | none => .tup []
  else
    match args[k - ghost]? with
    | some (.obj d) => .obj (k - ghost) d.1 d.2
    | some (.row t xs) => .own (k - ghost) t xs
    | _ => .dead

def finOK (l : Lk) : Res → Prop
  | .unit => False
  | .val d => ∃ u, frz l (some d.1) = some (d, u)
  | .own t xs => match l.s, l.c with
    | .nil, _ => xs = []
    | .asl n s none, .own n' t' ys => n = n' ∧ castTo (.slice t') (.slice t) ys = some xs
    | .asl n s (some (0, len)), .own n' t' ys => n = n' ∧ castTo (.slice t') (.slice t) (ys.take len) = some xs
    | _, _ => False
  | .obj t x => match l.s, l.c with
    | .apt n s [], .obj n' t' y => n = n' ∧ s < ghost ∧ castTo t' t y = some x
    | _, _ => False
  | .tup _ => False
  | .panic _ => False

def finOne (tab : Tab) (st : St) (rv : ResultVar) (r : Res) : Prop :=
  match rv with
  | .tmp t => match look st (.tmp t) with
    | some l => finOK l r
    | none => False
  | .cell a e => match look st (.tmp a), r with
    | some l, .val d => aim l = some d ∧ ty tab e = some d.1
    | _, _ => False

def finAll (tab : Tab) (st : St) : List ResultVar → List Dv → Prop
  | [], ds => ds = []
  | rv :: r, ds => match ds with
    | d :: ds => finOne tab st rv (.val d) ∧ finAll tab st r ds
    | [] => False

def finRes (tab : Tab) (st : St) (rvs : List ResultVar) (r : Res) : Prop :=
  match rvs with
  | [] => r = .unit
  | [rv] => finOne tab st rv r
  | rvs => match r with
    | .tup ds => finAll tab st rvs ds
    | _ => False

def finIos (st : St) : List Arg → Nat → List Dv → Prop
  | [], _, ds => ds = []
  | .obj _ :: r, k, ds => match ds with
    | e :: es => (∃ n, st (ghost + k) = .obj n e.1 e.2) ∧ finIos st r (k + 1) es
    | [] => False
  | .val _ :: r, k, ds => finIos st r (k + 1) ds
  | .ptr _ :: r, k, ds => finIos st r (k + 1) ds
  | .row _ _ :: r, k, ds => finIos st r (k + 1) ds
  | .clo _ _ :: r, k, ds => finIos st r (k + 1) ds
  | .ask :: r, k, ds => finIos st r (k + 1) ds

structure Finish (tab : Tab) (rvs : List ResultVar) (args : List Arg) (out : Out) (st : St) : Prop where mk ::
  out : finRes tab st rvs out.res ∧ finIos st args 0 out.ios

structure Panics (args : List Arg) (out : Out) (ch : List PanicEntry) (st : St) : Prop where mk ::
  out : out.res = .panic ch ∧ finIos st args 0 out.ios

def EndsF (tab : Tab) (rvs : List ResultVar) (args : List Arg) (out : Out) (e : Exit) (st : St) : Prop :=
  match e with
  | .normal => Finish tab rvs args out st
  | .ret => Finish tab rvs args out st
  | .panic ch => Panics args out ch st
  | _ => False

theorem finRes_np {tab : Tab} {st : St} {rvs : List ResultVar} {r : Res} (h : finRes tab st rvs r) : r.isPanic = false := by
  unfold finRes at h
  split at h
  · rw [h]; rfl
  · unfold finOne at h
    cases r with
    | panic ch =>
      exfalso
      split at h
      · split at h
        · exact h
        · exact h
      · split at h
        · rename_i h1 h2; cases h2
        · exact h
    | _ => rfl
  · split at h
    · rfl
    · exact h.elim

theorem args_len {w : World} {R : Nat → Prop} : ∀ {args : List Arg} {vals : List Value}, argsRep w R args vals → args.length = vals.length
  | [], _, h => by simp only [argsRep] at h; simp [h]
  | x :: xs, _, ⟨v, r, h, _, h2⟩ => by subst h; simp [args_len h2]

theorem args_at {w : World} {R : Nat → Prop} : ∀ {args : List Arg} {vals : List Value} {k : Nat} {x : Arg}, argsRep w R args vals → args[k]? = some x → ∃ v, vals[k]? = some v ∧ argRep w R x v
  | [], _, k, x, h, hk => by simp at hk
  | y :: xs, _, k, x, ⟨v, r, h, h1, h2⟩, hk => by
    subst h
    cases k with
    | zero => simp only [List.getElem?_cons_zero, Option.some.injEq] at hk; subst hk; exact ⟨v, rfl, h1⟩
    | succ k => simpa using args_at h2 (by simpa using hk)

theorem io_mem : ∀ {args : List Arg} {vals : List Value} {k b : Nat} {x : Arg} {v : Value}, args[k]? = some x → vals[k]? = some v → ioBlk x v = some b → b ∈ ioBlks args vals
  | [], _, k, b, x, v, h, _, _ => by simp at h
  | _ :: _, [], k, b, x, v, _, h, _ => by simp at h
  | y :: xs, u :: us, k, b, x, v, h1, h2, h3 => by
    simp only [ioBlks, List.mem_append]
    cases k with
    | zero =>
      simp only [List.getElem?_cons_zero, Option.some.injEq] at h1 h2
      subst h1 h2
      exact .inl (by simp [h3])
    | succ k => exact .inr (io_mem (by simpa using h1) (by simpa using h2) h3)

theorem io_sep : ∀ {args : List Arg} {vals : List Value} {i j b : Nat} {x y : Arg} {u v : Value}, (ioBlks args vals).Nodup → args[i]? = some x → vals[i]? = some u → ioBlk x u = some b → args[j]? = some y → vals[j]? = some v → ioBlk y v = some b → i = j
  | [], _, i, j, b, x, y, u, v, _, h, _, _, _, _, _ => by simp at h
  | _ :: _, [], i, j, b, x, y, u, v, _, _, h, _, _, _, _ => by simp at h
  | z :: xs, t :: us, i, j, b, x, y, u, v, hn, h1, h2, h3, h4, h5, h6 => by
    simp only [ioBlks] at hn
    obtain ⟨_, n2, n3⟩ := List.nodup_append.1 hn
    cases i with
    | zero =>
      simp only [List.getElem?_cons_zero, Option.some.injEq] at h1 h2
      subst h1 h2
      cases j with
      | zero => rfl
      | succ j =>
        exact absurd rfl (n3 b (by simp [h3]) b (io_mem (by simpa using h4) (by simpa using h5) h6))
    | succ i =>
      cases j with
      | zero =>
        simp only [List.getElem?_cons_zero, Option.some.injEq] at h4 h5
        subst h4 h5
        exact absurd rfl (n3 b (by simp [h6]) b (io_mem (by simpa using h1) (by simpa using h2) h3))
      | succ j =>
        have := io_sep n2 (by simpa using h1) (by simpa using h2) h3 (by simpa using h4) (by simpa using h5) h6
        omega

def begV (vals : List Value) (k : Nat) : Value := if k < ghost then vals.getD k undef else vals.getD (k - ghost) undef

theorem row_mem : ∀ {args : List Arg} {vals : List Value} {k b : Nat} {x : Arg} {v : Value}, args[k]? = some x → vals[k]? = some v → rowBlk x v = some b → b ∈ rowBlks args vals
  | [], _, k, b, x, v, h, _, _ => by simp at h
  | _ :: _, [], k, b, x, v, _, h, _ => by simp at h
  | y :: xs, u :: us, k, b, x, v, h1, h2, h3 => by
    simp only [rowBlks, List.mem_append]
    cases k with
    | zero =>
      simp only [List.getElem?_cons_zero, Option.some.injEq] at h1 h2
      subst h1 h2
      exact .inl (by simp [h3])
    | succ k => exact .inr (row_mem (by simpa using h1) (by simpa using h2) h3)

theorem begin_good {R : Nat → Prop} {args : List Arg} {vals : List Value} (hr : Ready w R args vals) : Good w (fun b => R b ∨ b ∈ rowBlks args vals) (fun b => b ∈ ioBlks args vals) (ini args) (begV vals) w := by
  have hown : ∀ k b, ownBlk (ini args k) (begV vals k) = some b → ghost ≤ k ∧ ∃ x v, args[k - ghost]? = some x ∧ vals[k - ghost]? = some v ∧ ioBlk x v = some b ∧ (isObj (ini args k) = true ∨ (isObj (ini args k) = false ∧ rowBlk x v = some b)) := by
    intro k b hb
    unfold ini begV at hb
    split at hb
    · exfalso
      split at hb <;> simp [ownBlk] at hb
    · rename_i hk
      split at hb
      · rename_i d hd
        obtain ⟨v, hv, hv'⟩ := args_at hr.rep hd
        clear hv'
        refine ⟨by omega, .obj d, v, hd, hv, ?_, .inl ?_⟩
        · rw [List.getD_eq_getElem?_getD, hv] at hb
          rw [← hb]
          cases v <;> try rfl
          rename_i A
          cases A <;> rfl
        · unfold ini
          rw [if_neg hk, hd]
          rfl
      · rename_i t xs hd
        obtain ⟨v, hv, hv'⟩ := args_at hr.rep hd
        clear hv'
        have hb2 : ioBlk (.row t xs) v = some b := by
          rw [List.getD_eq_getElem?_getD, hv] at hb
          rw [← hb]
          cases v <;> try rfl
          rename_i A _ _
          cases A <;> rfl
        refine ⟨by omega, .row t xs, v, hd, hv, hb2, .inr ⟨?_, ?_⟩⟩
        · unfold ini
          rw [if_neg hk, hd]
          rfl
        · rw [← hb2]
          cases v <;> try rfl
          rename_i A _ _
          cases A <;> rfl
      · simp [ownBlk] at hb
  have hmem : ∀ k b, ownBlk (ini args k) (begV vals k) = some b → b ∈ ioBlks args vals := by
    intro k b hb
    obtain ⟨_, d, v, h1, h2, h3, _⟩ := hown k b hb
    exact io_mem h1 h2 h3
  have hRO : ∀ b, R b → RO w (fun b => R b ∨ b ∈ rowBlks args vals) (ini args) (begV vals) b := fun b hb => ⟨.inl (.inl hb), fun k hk => hr.apart b (hmem k b hk) hb⟩
  refine ⟨⟨rfl, rfl, rfl, Nat.le_refl _, fun _ _ _ => rfl⟩, fun k => ?_, fun i j b hi hj => ?_, fun k b hb => ?_⟩
  · unfold ini
    split
    · rename_i hk
      have hV : begV vals k = vals.getD k undef := by unfold begV; rw [if_pos hk]
      split
      · rename_i d hd
        obtain ⟨v, hv, h⟩ := args_at hr.rep hd
        rw [hV, List.getD_eq_getElem?_getD, hv]
        exact vrep_mono (Nat.le_refl _) (fun b _ => hRO b) (fun _ _ _ => rfl) h
      · rename_i d hd
        obtain ⟨v, hv, h⟩ := args_at hr.rep hd
        have hini : ini args (ghost + k) = .obj k d.1 d.2 := by
          unfold ini
          rw [if_neg (by omega), show ghost + k - ghost = k by omega, hd]
        have hVg : begV vals (ghost + k) = v := by
          unfold begV
          rw [if_neg (by omega), show ghost + k - ghost = k by omega, List.getD_eq_getElem?_getD, hv]
          rfl
        refine ⟨fun t x h' => ?_, fun t xs h' => ?_⟩
        · obtain ⟨ad, cs, hva, _⟩ := h
          refine ⟨ad, by rw [hVg, hva], ?_⟩
          have h00 : offs t [] = 0 := by cases t <;> rfl
          rw [h00, add_zero, hV, List.getD_eq_getElem?_getD, hv]
          exact hva
        · have h' : ini args (ghost + k) = .own k t xs := h'
          rw [hini] at h'
          cases h'
      · rename_i d hd
        obtain ⟨v, hv, h⟩ := args_at hr.rep hd
        rw [hV, List.getD_eq_getElem?_getD, hv]
        obtain ⟨ad, cs, h1, h2, h3, h4, h5⟩ := h
        exact ⟨ad, cs, h1, hRO _ h2, h3, rep_mono (Nat.le_refl _) (fun b _ => hRO b) (fun _ _ _ => rfl) _ h4, h5⟩
      · rename_i t xs hd
        obtain ⟨v, hv, h⟩ := args_at hr.rep hd
        have hVg : begV vals (ghost + k) = v := by
          unfold begV
          rw [if_neg (by omega), show ghost + k - ghost = k by omega, List.getD_eq_getElem?_getD, hv]
          rfl
        intro t' xs' _
        rw [hVg, hV, List.getD_eq_getElem?_getD, hv]
        rfl
      · rename_i f l hd
        obtain ⟨v, hv, h⟩ := args_at hr.rep hd
        rw [hV, List.getD_eq_getElem?_getD, hv]
        obtain ⟨vs, h1, h2⟩ := h
        exact ⟨vs, h1, h2.mono (Nat.le_refl _) (fun b _ => hRO b) (fun _ _ _ => rfl)⟩
      · trivial
      · rename_i hd
        have : vals[k]? = none := by
          have hlen := args_len hr.rep
          rw [List.getElem?_eq_none_iff] at hd ⊢
          omega
        rw [hV, List.getD_eq_getElem?_getD, this]
        exact undef_tup
    · rename_i hk
      split
      · rename_i d hd
        obtain ⟨v, hv, h⟩ := args_at hr.rep hd
        have hV : begV vals k = v := by
          unfold begV
          rw [if_neg hk, List.getD_eq_getElem?_getD, hv]
          rfl
        rw [hV]
        obtain ⟨ad, cs, h1, h2, h3⟩ := h
        exact ⟨ad, cs, h1, rep_mono (Nat.le_refl _) (fun b _ => hRO b) (fun _ _ _ => rfl) _ h2, h3⟩
      · rename_i t xs hd
        obtain ⟨v, hv, h⟩ := args_at hr.rep hd
        have hV : begV vals k = v := by
          unfold begV
          rw [if_neg hk, List.getD_eq_getElem?_getD, hv]
          rfl
        rw [hV]
        obtain ⟨A, c, cs, h0, h1, h2, h3, h4⟩ := h
        exact ⟨A, c, cs, h0, h1, h2, h3.imp (fun x c _ hx => rep_mono (Nat.le_refl _) (fun b _ => hRO b) (fun _ _ _ => rfl) t hx), h4⟩
      · exact trivial
  · obtain ⟨p1, d1, v1, a1, a2, a3, _⟩ := hown i b hi
    obtain ⟨p2, d2, v2, b1, b2, b3, _⟩ := hown j b hj
    have := io_sep hr.nodup a1 a2 a3 b1 b2 b3
    omega
  · obtain ⟨p1, d1, v1, a1, a2, a3, a4⟩ := hown k b hb
    exact .inl ⟨io_mem a1 a2 a3, a4.imp (fun h => ⟨h, p1⟩) (fun h => ⟨h.1, .inr (row_mem a1 a2 h.2)⟩)⟩


/-! ### Where it ends -/
theorem own_val {R : Nat → Prop} {t : Ty} {xs : List t.den} {v : Value} (h : OwnS w R t xs v) {R' : Nat → Prop} (hR : ∀ b, R b → R' b) (hb : ∀ n b, ownBlk (.own n t xs) v = some b → R' b) : vrep w R' (.slice t) xs v := by
  obtain ⟨A, c, cs, hv, h1, h2, h3, h4⟩ := h
  refine ⟨[v], ⟨A, c, by rw [hv], h1, h2, ?_⟩, by simp [mkv, Ty.agg]⟩
  rcases h4 with ⟨rfl, rfl⟩ | ⟨ad, rfl, hm⟩
  · exact .inl (List.eq_nil_of_length_eq_zero (by omega))
  · exact .inr ⟨ad, cs, rfl, hb 0 _ (by rw [hv]; rfl), hm.block_lt, h3.imp (fun x c _ hx => rep_mono (Nat.le_refl _) (fun b _ => hR b) (fun _ _ _ => rfl) t hx), hm.lies⟩

theorem to_rd {r : Res} {v : Value} {b : Nat} (h : RO B R0 st V b) (hr : ∀ b, ownBlk (r.slot 0) v = some b → ∃ k, ownBlk (st k) (V k) = some b) : Rd B R0 r v b := by
  refine ⟨?_, fun e => ?_⟩
  · rcases Nat.lt_or_ge b B.heap.size with hlt | hge
    · exact .inl ⟨h.1.resolve_right (by omega), hlt⟩
    · exact .inr hge
  · obtain ⟨k, hk⟩ := hr b e
    exact h.2 k hk

def rdRes (tmps : Array Value) : ResultVar → Sem Value
  | .tmp t => pure (tmps.getD t undef)
  | .cell x e => do loadVar e (← asAddr (tmps.getD x undef))

/-- What a result says of a value: like resRep, with what may be read told by what the state owns. -/
theorem fin_one (hg : Good B R0 L st V w) (hl : Link N V a) (ok : TabOK P tab)
    {rv : ResultVar} {r : Res} (h : finOne tab st rv r) : ∃ v, (rdRes a.tmps rv).run P w = .ok v w ∧ resRep w (Rd B R0 r v) r v ∧ ∀ b, ownBlk (r.slot 0) v = some b → (B.heap.size ≤ b ∨ (isObj (r.slot 0) = false ∧ L b ∧ R0 b)) ∧ ∃ k, ownBlk (st k) (V k) = some b := by
  cases rv with
  | tmp t =>
    simp only [finOne] at h
    split at h
    · rename_i l hlk
      have hk := look_ok hg hl hlk
      have hev : a.eval (.tmp t) = a.tmps.getD t undef := rfl
      rw [hev] at hk
      refine ⟨a.tmps.getD t undef, by simp [rdRes], ?_⟩
      generalize a.tmps.getD t undef = v at hk
      cases r with
      | unit => exact h.elim
      | tup l => exact h.elim
      | panic ch => exact h.elim
      | val d =>
        obtain ⟨u, hu⟩ := h
        obtain ⟨hg', h2, _⟩ := frz_ok hg hk hu
        refine ⟨?_, fun b hb => by cases hb⟩
        obtain ⟨cs, h3, h4⟩ := h2
        exact ⟨cs, rep_mono (Nat.le_refl _) (fun b _ h => to_rd h (fun b hb => by cases hb)) (fun _ _ _ => rfl) _ h3, h4⟩
      | own t' xs =>
        obtain ⟨s, c⟩ := l
        have hr := hk.rep
        have ho := hk.own
        simp only [finOK] at h
        simp only at hr ho
        split at h
        · rename_i e1 e2
          subst h
          simp only [SlotRep] at hr
          subst hr
          exact ⟨⟨none, 0, [], rfl, Nat.le_refl _, Nat.zero_le _, rfl, .inl ⟨rfl, rfl⟩⟩, fun b hb => by simp [Res.slot, ownBlk] at hb⟩
        · rename_i n k n' t2 ys
          obtain ⟨rfl, hc⟩ := h
          obtain ⟨e, he⟩ := cast_cast hc
          injection e with e
          subst e
          subst he
          have hks := ho n k rfl
          have hv := hr _ _ hks.symm
          subst hv
          have hrk := hg.rep k
          rw [← hks] at hrk
          have hb0 : ∀ b, ownBlk ((Res.own t2 xs).slot 0) (V k) = some b → ownBlk (st k) (V k) = some b := by
            intro b hb
            rw [← hks, ← hb]
            exact blk_own _ _ _ _ _
          obtain ⟨A, c, cs, hv, h1, h2, h3, h4⟩ := hrk
          refine ⟨⟨A, c, cs, hv, h1, h2, h3.imp (fun x c _ hx => rep_mono (Nat.le_refl _) (fun b _ h => to_rd h (fun b hb => ⟨k, hb0 b hb⟩)) (fun _ _ _ => rfl) _ hx), h4⟩, fun b hb => ⟨?_, k, hb0 b hb⟩⟩
          rcases hg.mine k b (hb0 b hb) with ⟨h0, ⟨h, _⟩ | ⟨_, h⟩⟩ | h
          · rw [← hks] at h; cases h
          · exact .inr ⟨rfl, h0, h⟩
          · exact .inl h
        · rename_i n k len n' t2 ys
          obtain ⟨rfl, hc⟩ := h
          obtain ⟨e, he⟩ := cast_cast hc
          injection e with e
          subst e
          subst he
          have hks := ho n k rfl
          obtain ⟨hlen, A0, L0, c0, A1, hV, hv, hAA⟩ := hr _ _ hks.symm
          rw [Nat.zero_add] at hlen
          have hAe : A1 = A0 := by
            rcases hAA with ⟨h1, h2⟩ | ⟨ad, j, h1, h2, h3, h4⟩
            · rw [h1, h2]
            · have hj : j = 0 := by
                rcases Nat.eq_zero_or_pos c0 with h5 | h5
                · rw [h5, Nat.zero_mul] at h3; omega
                · rw [h4 h5, Nat.zero_mul]
              rw [h1, h2, hj, add_zero]
          rw [hAe, Nat.sub_zero] at hv
          subst hv
          have hrk := hg.rep k
          rw [← hks] at hrk
          obtain ⟨A, c, cs, hv, h1, h2, h3, h4⟩ := hrk
          rw [hV] at hv
          injection hv with v1 v2 v3
          subst v1 v3
          have hb0 : ∀ b, ownBlk ((Res.own t2 (ys.take len)).slot 0) (.slice A0 len c0) = some b → ownBlk (st k) (V k) = some b := by
            intro b hb
            rw [← hks, hV, ← hb]
            cases A0 <;> rfl
          have hl2 : (ys.take len).length = len := by rw [List.length_take]; exact Nat.min_eq_left hlen
          refine ⟨⟨A0, c0, cs.take (len * t2.sz), by rw [hl2], by rw [hl2]; omega, h2, (repList_take h3 len).imp (fun x c _ hx => rep_mono (Nat.le_refl _) (fun b _ h => to_rd h (fun b hb => ⟨k, hb0 b hb⟩)) (fun _ _ _ => rfl) _ hx), ?_⟩, fun b hb => ⟨?_, k, hb0 b hb⟩⟩
          · rcases h4 with h4 | ⟨ad, h5, hm⟩
            · exact .inl h4
            · refine .inr ⟨ad, h5, ?_⟩
              obtain ⟨m1, row, e, fz, m2, m3, m4, m5, m6⟩ := hm.out
              refine ⟨m1, row, e, fz, m2, m3, m4, Nat.le_trans (by rw [List.length_take]; exact Nat.min_le_right _ _) m5, fun j v hj => m6 j v ?_⟩
              rw [List.getElem?_take] at hj
              split at hj
              · exact hj
              · cases hj
          · rcases hg.mine k b (hb0 b hb) with ⟨h0, ⟨h, _⟩ | ⟨_, h⟩⟩ | h
            · rw [← hks] at h; cases h
            · exact .inr ⟨rfl, h0, h⟩
            · exact .inl h
        · exact h.elim
      | obj t' x =>
        obtain ⟨s, c⟩ := l
        have hr := hk.rep
        have ho := hk.own
        simp only [finOK] at h
        simp only at hr ho
        split at h
        · rename_i n k n' t2 ys
          obtain ⟨rfl, hlt, hc⟩ := h
          obtain ⟨e, he⟩ := cast_cast hc
          subst e
          subst he
          have hks := ho n k rfl
          obtain ⟨ad, hV, hv⟩ := hr.1 _ _ hks.symm
          have h00 : offs t2 [] = 0 := by cases t2 <;> rfl
          rw [h00, add_zero, ← hV] at hv
          subst hv
          have hrk := hg.rep k
          rw [← hks] at hrk
          have hb0 : ∀ b, ownBlk ((Res.obj t2 x).slot 0) (V k) = some b → ownBlk (st k) (V k) = some b := by
            intro b hb
            rw [← hks, ← hb]
            exact blk_obj _ _ _ _ _
          obtain ⟨ad, cs, hv, h1, h2⟩ := hrk
          refine ⟨⟨ad, cs, hv, rep_mono (Nat.le_refl _) (fun b _ h => to_rd h (fun b hb => ⟨k, hb0 b hb⟩)) (fun _ _ _ => rfl) _ h1, h2⟩, fun b hb => ⟨?_, k, hb0 b hb⟩⟩
          rcases hg.mine k b (hb0 b hb) with ⟨_, ⟨_, h⟩ | ⟨h, _⟩⟩ | h
          · omega
          · rw [← hks] at h; cases h
          · exact .inl h
        · exact h.elim
    · exact h.elim
  | cell x e =>
    simp only [finOne] at h
    split at h
    · rename_i l d hlk
      obtain ⟨h1, h2⟩ := h
      have hk := look_ok hg hl hlk
      have hev : a.eval (.tmp x) = a.tmps.getD x undef := rfl
      rw [hev] at hk
      obtain ⟨ad, cs, hv, h3, h4⟩ := aim_ok hg hk h1
      refine ⟨mkv d.1 cs, ?_, ⟨cs, rep_mono (Nat.le_refl _) (fun b _ h => to_rd h (fun b hb => by cases hb)) (fun _ _ _ => rfl) _ h3, rfl⟩, fun b hb => by cases hb⟩
      have hl' := tm_loadVar (P := P) ok h2 h4 (rep_len _ h3)
      simp only [rdRes, hv]
      simp [asAddr, hl']
    · exact h.elim

theorem fin_list (hg : Good B R0 L st V w) (hl : Link N V a) (ok : TabOK P tab) : ∀ {rvs : List ResultVar} {ds : List Dv}, finAll tab st rvs ds →
    ∃ vs, (rvs.mapM (rdRes a.tmps)).run P w = .ok vs w ∧ vs.length = rvs.length ∧ ∀ R, (∀ b, RO B R0 st V b ∨ True → (R0 b ∧ b < B.heap.size) ∨ B.heap.size ≤ b → R b) → tupRep w R ds vs
  | [], ds, h => by
    simp only [finAll] at h
    subst h
    exact ⟨[], by simp, rfl, fun R _ => rfl⟩
  | rv :: r, ds, h => by
    simp only [finAll] at h
    split at h
    · rename_i d ds
      obtain ⟨v, h1, h2, _⟩ := fin_one hg hl ok h.1
      obtain ⟨vs, k1, k2, k3⟩ := fin_list hg hl ok h.2
      refine ⟨v :: vs, ?_, by simp [k2], fun R hR => ⟨v, vs, rfl, ?_, k3 R hR⟩⟩
      · rw [List.mapM_cons, Sem.run_bind, h1]
        simp only [Result.andThen_ok, Sem.run_bind, k1, Sem.run_pure]
      · obtain ⟨cs, q1, q2⟩ := h2
        exact ⟨cs, rep_mono (Nat.le_refl _) (fun b _ h => hR b (.inr trivial) h.1) (fun _ _ _ => rfl) _ q1, q2⟩
    · exact h.elim

def joinV : List Value → Value
  | [v] => v
  | vs => .tuple vs.toArray

theorem results_run {fn : Func} (tmps : Array Value) {vs : List Value} (h : (fn.results.toList.mapM (rdRes tmps)).run P w = .ok vs w) : (results fn tmps).run P w = .ok (joinV vs) w := by
  have e : results fn tmps = (do let vs ← fn.results.mapM (rdRes tmps); pure (if h : vs.size = 1 then vs[0] else .tuple vs)) := rfl
  rw [e, Array.mapM_eq_mapM_toList]
  simp only [Sem.run_bind, map_eq_pure_bind, bind_assoc, pure_bind, h, Result.andThen_ok, Sem.run_pure]
  rcases vs with _ | ⟨v, _ | ⟨u, r⟩⟩ <;> simp [joinV]


theorem enters {f : FuncId} {fn : Func} (hf : P.funcs[f]? = some fn) (hname : (fn.name == "runtime.NumGoroutine") = false) (hb : fn.body.isSome = true) (args : Array Value) (w : World) :
    (callFunc f args).run P w = .ok (.enter f args) w := by
  have h1 : ¬ fn.name = "runtime.NumGoroutine" := by simpa using hname
  have h2 : ¬ fn.body = none := by intro h; rw [h] at hb; cases hb
  simp [callFunc, hf, h1, h2]

theorem fin_ios (hg : Good B R0 L st V w) (hV : ∀ k, ghost ≤ k → V k = N.g k) {R : Nat → Prop} (hR : ∀ b, RO B R0 st V b → R b) : ∀ {args : List Arg} {k : Nat} {ds : List Dv} {vals : List Value}, args.length = vals.length → (∀ j, j < vals.length → N.g (ghost + (k + j)) = vals.getD j undef) → finIos st args k ds →
    iosRep w R args vals ds
  | [], k, ds, vals, hlen, hv, h => h
  | .obj d :: r, k, ds, [], hlen, _, _ => by simp at hlen
  | .val d :: r, k, ds, [], hlen, _, _ => by simp at hlen
  | .ptr d :: r, k, ds, [], hlen, _, _ => by simp at hlen
  | .row _ _ :: r, k, ds, [], hlen, _, _ => by simp at hlen
  | .clo _ _ :: r, k, ds, [], hlen, _, _ => by simp at hlen
  | .ask :: r, k, ds, [], hlen, _, _ => by simp at hlen
  | .obj d :: r, k, ds, v :: vs, hlen, hv, h => by
    simp only [finIos] at h
    split at h
    · rename_i e es
      obtain ⟨⟨n, hn⟩, h⟩ := h
      refine ⟨v, vs, e, es, rfl, rfl, ?_, fin_ios hg hV hR (by simpa using hlen) (fun j hj => ?_) h⟩
      · have hr := hg.rep (ghost + k)
        rw [hn, hV _ (by omega)] at hr
        have := hv 0 (by simp)
        simp only [Nat.add_zero] at this
        rw [this] at hr
        obtain ⟨ad, cs, h1, h2, h3⟩ := hr
        exact ⟨ad, cs, h1, rep_mono (Nat.le_refl _) (fun b _ => hR b) (fun _ _ _ => rfl) _ h2, h3⟩
      · have := hv (j + 1) (by simpa using hj)
        rw [show ghost + (k + 1 + j) = ghost + (k + (j + 1)) by omega, this]
        rfl
    · exact h.elim
  | .val d :: r, k, ds, v :: vs, hlen, hv, h => by
    refine ⟨v, vs, rfl, fin_ios hg hV hR (by simpa using hlen) (fun j hj => ?_) h⟩
    have := hv (j + 1) (by simpa using hj)
    rw [show ghost + (k + 1 + j) = ghost + (k + (j + 1)) by omega, this]
    rfl
  | .ptr d :: r, k, ds, v :: vs, hlen, hv, h => by
    refine ⟨v, vs, rfl, fin_ios hg hV hR (by simpa using hlen) (fun j hj => ?_) h⟩
    have := hv (j + 1) (by simpa using hj)
    rw [show ghost + (k + 1 + j) = ghost + (k + (j + 1)) by omega, this]
    rfl
  | .row _ _ :: r, k, ds, v :: vs, hlen, hv, h => by
    refine ⟨v, vs, rfl, fin_ios hg hV hR (by simpa using hlen) (fun j hj => ?_) h⟩
    have := hv (j + 1) (by simpa using hj)
    rw [show ghost + (k + 1 + j) = ghost + (k + (j + 1)) by omega, this]
    rfl
  | .clo _ _ :: r, k, ds, v :: vs, hlen, hv, h => by
    refine ⟨v, vs, rfl, fin_ios hg hV hR (by simpa using hlen) (fun j hj => ?_) h⟩
    have := hv (j + 1) (by simpa using hj)
    rw [show ghost + (k + 1 + j) = ghost + (k + (j + 1)) by omega, this]
    rfl
  | .ask :: r, k, ds, v :: vs, hlen, hv, h => by
    refine ⟨v, vs, rfl, fin_ios hg hV hR (by simpa using hlen) (fun j hj => ?_) h⟩
    have := hv (j + 1) (by simpa using hj)
    rw [show ghost + (k + 1 + j) = ghost + (k + (j + 1)) by omega, this]
    rfl

/-- A function does what its body is shown to do. -/
theorem fn_ok (ok : TabOK P tab) (hΓ : ConsOK P Γ) (hm : P.follows .mixedOrders = true) {f : FuncId} {fn : Func} {c : Code} {con : Con} (hf : P.funcs[f]? = some fn) (hname : (fn.name == "runtime.NumGoroutine") = false) (hb : fn.body = some c)
    (hfit : (fits fn.ntmps c && decide (fn.ntmps ≤ ghost)) = true)
    (h : ∀ args out, con args = some out → args ≠ [.ask] → args.length ≤ fn.ntmps ∧ Ex tab Γ c (EndsF tab fn.results.toList args out) (ini args)) : ConOK P f con := by
  intro args out vals w R hc hr
  obtain ⟨hlen, hex⟩ := h args out hc (fun e => by
    subst e
    obtain ⟨v, r, _, h1, _⟩ := hr.rep
    exact h1)
  simp only [Bool.and_eq_true, decide_eq_true_eq] at hfit
  obtain ⟨hfit, hgh⟩ := hfit
  have hal := args_len hr.rep
  refine .inl ⟨f, vals.toArray, w, enters hf hname (by rw [hb]; rfl) _ _, calls_of_wp hf hb ?_⟩
  let N : Env := ⟨fn.ntmps, fun k => vals.getD (k - ghost) undef, hgh, []⟩
  have hg0 := begin_good hr
  have hl0 : Link N (begV vals) { tmps := vals.toArray ++ Array.replicate (fn.ntmps - vals.toArray.size) undef, defers := [] } := by
    refine ⟨by simp [N]; omega, fun k hk => ?_, fun k hk => ?_, rfl⟩
    · simp only [begV, if_pos hk, Array.getD_eq_getD_getElem?, List.getD_eq_getElem?_getD, Array.getElem?_append, List.size_toArray]
      split
      · rename_i hlt; simp [hlt]
      · rename_i hlt
        rw [List.getElem?_eq_none (by omega), Array.getElem?_replicate]
        split <;> rfl
    · simp only [begV, N, if_neg (show ¬ k < ghost by omega)]
  have hs0 : Sim w (fun b => R b ∨ b ∈ rowBlks args vals) (fun b => b ∈ ioBlks args vals) N (ini args) { tmps := vals.toArray ++ Array.replicate (fn.ntmps - vals.toArray.size) undef, defers := [] } w := by
    refine ⟨begV vals, ghost + vals.length + 1, hg0, hl0, fun k n hn => ?_⟩
    unfold ini at hn
    split at hn
    · rename_i hk
      split at hn
      · simp [stampOf] at hn
      · rename_i d hd
        simp only [stampOf, Option.some.injEq] at hn
        omega
      · simp [stampOf] at hn
      · rename_i d hd
        simp only [stampOf, Option.some.injEq] at hn
        omega
      · simp [stampOf] at hn
      · simp [stampOf] at hn
      · simp [stampOf] at hn
    · split at hn
      · rename_i d hd
        simp only [stampOf, Option.some.injEq] at hn
        have := (List.getElem?_eq_some_iff.1 hd).1
        omega
      · rename_i t xs hd
        simp only [stampOf, Option.some.injEq] at hn
        have := (List.getElem?_eq_some_iff.1 hd).1
        omega
      · simp [stampOf] at hn
  refine wp_mono (ex_sound ok hΓ hm c _ _ _ _ hfit hex hs0) ?_
  rintro e a' w' ⟨st, hq, hsim⟩
  obtain ⟨V, _, hg, hl, _⟩ := hsim.out
  have hrow : ∀ b, b ∈ ioBlks args vals → (R b ∨ b ∈ rowBlks args vals) → b ∈ rowBlks args vals := fun b h1 h2 => h2.resolve_left (hr.apart b h1)
  have core : finIos st args 0 out.ios → ∀ v, resRep w' (Rd w (fun b => R b ∨ b ∈ rowBlks args vals) out.res v) out.res v → (∀ b, ownBlk (out.res.slot 0) v = some b → (w.heap.size ≤ b ∨ (isObj (out.res.slot 0) = false ∧ b ∈ ioBlks args vals ∧ (R b ∨ b ∈ rowBlks args vals))) ∧ ∃ k, ownBlk (st k) (V k) = some b) → After w R args vals out v w' := by
    intro h2 v hv hb
    refine ⟨hg.kept, fun b h => (hb b h).1.imp id (fun h => ⟨h.1, hrow b h.2.1 h.2.2⟩), hv, ?_⟩
    refine fin_ios (N := N) hg hl.lent (fun b h => to_rd h (fun b hb' => (hb b hb').2)) hal (fun j hj => ?_) h2
    simp [N, show ghost + (0 + j) - ghost = j by omega]
  have fin : Finish tab fn.results.toList args out st → a'.defers = [] ∧ ∃ v, (results fn a'.tmps).run P w' = .ok v w' ∧ ∃ v', Ending.returned v = ends out.res v' ∧ After w R args vals out v' w' := by
    intro hfin
    obtain ⟨h1, h2⟩ := hfin.out
    refine ⟨hl.defers, ?_⟩
    have hnp := finRes_np h1
    simp only [ends_ret hnp]
    have mk := core h2
    unfold finRes at h1
    split at h1
    · rename_i hrv
      refine ⟨_, results_run (vs := []) _ (by rw [hrv]; simp), _, rfl, mk _ ?_ (fun b hb => ?_)⟩
      · rw [h1]; trivial
      · rw [h1] at hb; cases hb
    · rename_i rv hrv
      obtain ⟨v, k1, k2, k3⟩ := fin_one (P := P) hg hl ok h1
      refine ⟨_, results_run (vs := [v]) _ (by rw [hrv]; simp [k1]), _, rfl, mk _ k2 k3⟩
    · rename_i hne hne1
      split at h1
      · rename_i ds hds
        obtain ⟨vs, k1, k2, k3⟩ := fin_list (P := P) hg hl ok h1
        have hvs : joinV vs = .tuple vs.toArray := by
          rcases vs with _ | ⟨v, _ | ⟨u, r⟩⟩
          · rfl
          · simp only [List.length_cons, List.length_nil, Nat.zero_add] at k2
            obtain ⟨rv, hrv⟩ := List.length_eq_one_iff.1 k2.symm
            exact absurd hrv (hne1 rv)
          · rfl
        refine ⟨_, results_run (vs := vs) _ k1, _, rfl, mk _ ?_ (fun b hb => ?_)⟩
        · rw [hvs, hds]
          exact ⟨vs, rfl, k3 _ (fun b _ h => ⟨h, by simp [Res.slot, ownBlk]⟩)⟩
        · rw [hds] at hb; cases hb
      · exact h1.elim
  cases e with
  | normal => exact fin hq
  | ret => exact fin hq
  | panic ch =>
    obtain ⟨h1, h2⟩ := hq.out
    refine ⟨hl.defers, undef, ?_, core h2 _ ?_ (fun b hb => ?_)⟩
    · rw [h1]; rfl
    · rw [h1]; trivial
    · rw [h1] at hb; cases hb
  | _ => exact hq.elim

end
end Go.Tm

/- Rules by which simp steps through a body. -/
set_option linter.unusedVariables false
set_option linter.unusedSimpArgs false
namespace Go.Tm

section
variable {tab : Tab} {Γ : Cons} {α β : Type} {K : α → Prop}

@[congr] theorem opt_congr {x x' : Option α} (h : x = x') : opt x K = opt x' K := by rw [h]
theorem opt_some {a : α} : opt (some a) K = K a := by simp [opt]
theorem opt_none : opt (none : Option α) K = False := by simp [opt]
theorem opt_ite {c : Prop} [Decidable c] {x : Option α} : opt (if c then x else none) K = (c ∧ opt x K) := by
  by_cases h : c <;> simp [h, opt]
theorem opt_map {f : β → α} {x : Option β} : opt (Option.map f x) K = opt x fun b => K (f b) := by
  cases x <;> simp [opt]
theorem opt_mono {x : Option α} {K K' : α → Prop} (h : opt x K) (hk : ∀ a, K a → K' a) : opt x K' := by
  obtain ⟨a, h1, h2⟩ := h
  exact ⟨a, h1, hk a h2⟩

@[congr] theorem br_congr {b b' : Bool} {X X' Y Y' : Prop} (h : b = b') (hx : b' = true → X = X') (hy : b' = false → Y = Y') : br b X Y = br b' X' Y' := by
  subst h
  cases b with
  | true => simp [br, hx rfl]
  | false => simp [br, hy rfl]
theorem br_true {X Y : Prop} : br true X Y = X := by simp [br]
theorem br_false {X Y : Prop} : br false X Y = Y := by simp [br]
theorem br_intro {b : Bool} {X Y : Prop} (h : b = true → X) (k : b = false → Y) : br b X Y := ⟨h, k⟩
theorem br_dec {c : Prop} [Decidable c] {X Y : Prop} (h : c → X) (k : ¬ c → Y) : br (decide c) X Y := ⟨fun e => h (by simpa using e), fun e => k (by simpa using e)⟩

/-! ### By type -/
def onSlice (o : Option Ty) (F : Ty → Prop) : Prop := match o with | some (.slice u) => F u | _ => False
@[congr] theorem onSlice_congr {o o' : Option Ty} {F : Ty → Prop} (h : o = o') : onSlice o F = onSlice o' F := by rw [h]
theorem onSlice_ok {u : Ty} {F : Ty → Prop} : onSlice (some (.slice u)) F = F u := rfl
def onInt (o : Option Ty) (F : IntKind → Prop) : Prop := match o with | some (.int k) => F k | _ => False
@[congr] theorem onInt_congr {o o' : Option Ty} {F : IntKind → Prop} (h : o = o') : onInt o F = onInt o' F := by rw [h]
theorem onInt_ok {k : IntKind} {F : IntKind → Prop} : onInt (some (.int k)) F = F k := rfl
def onLen (o : Option Ty) (X : Prop) (Y : Nat → Prop) : Prop := match o with | some (.slice _) => X | some (.arr n _) => Y n | _ => False
@[congr] theorem onLen_congr {o o' : Option Ty} {X : Prop} {Y : Nat → Prop} (h : o = o') : onLen o X Y = onLen o' X Y := by rw [h]
theorem onLen_slice {u : Ty} {X : Prop} {Y : Nat → Prop} : onLen (some (.slice u)) X Y = X := rfl
theorem onLen_arr {n : Nat} {u : Ty} {X : Prop} {Y : Nat → Prop} : onLen (some (.arr n u)) X Y = Y n := rfl
def onConv (o o2 : Option Ty) (X Y : Prop) : Prop := match o, o2 with
  | some (.slice (.int .u8)), some .str => X
  | some (.slice (.int .u8)), some (.slice (.int .u8)) => Y
  | _, _ => False
@[congr] theorem onConv_congr {a a' b b' : Option Ty} {X Y : Prop} (h : a = a') (k : b = b') : onConv a b X Y = onConv a' b' X Y := by rw [h, k]
theorem onConv_str {X Y : Prop} : onConv (some (.slice (.int .u8))) (some .str) X Y = X := rfl
theorem onConv_row {X Y : Prop} : onConv (some (.slice (.int .u8))) (some (.slice (.int .u8))) X Y = Y := rfl
def onStr (o o2 : Option Ty) (X Y : Prop) : Prop := match o, o2 with
  | some .str, some .str => X
  | some .str, some (.slice (.int .u8)) => Y
  | _, _ => False
@[congr] theorem onStr_congr {a a' b b' : Option Ty} {X Y : Prop} (h : a = a') (k : b = b') : onStr a b X Y = onStr a' b' X Y := by rw [h, k]
theorem onStr_str {X Y : Prop} : onStr (some .str) (some .str) X Y = X := rfl
theorem onStr_row {X Y : Prop} : onStr (some .str) (some (.slice (.int .u8))) X Y = Y := rfl

/-! ### Code -/
def seqK (tab : Tab) (Γ : Cons) (y : Code) (Q : Exit → St → Prop) (e : Exit) (st : St) : Prop :=
  match e with
  | .normal => Ex tab Γ y Q st
  | e => Q e st
def blockK (id : Nat) (Q : Exit → St → Prop) (e : Exit) (st : St) : Prop :=
  match e with
  | .exit j => if j = id then Q .normal st else Q (.exit j) st
  | e => Q e st
def loopK (Q : Exit → St → Prop) (X : St → Prop) (e : Exit) (st : St) : Prop :=
  match e with
  | .normal => X st
  | e => Q e st

theorem seqK_normal {y : Code} {Q : Exit → St → Prop} {st : St} : seqK tab Γ y Q .normal st = Ex tab Γ y Q st := rfl
theorem seqK_exit {y : Code} {Q : Exit → St → Prop} {st : St} {j : Nat} : seqK tab Γ y Q (.exit j) st = Q (.exit j) st := rfl
theorem seqK_panic {y : Code} {Q : Exit → St → Prop} {st : St} {ch : List PanicEntry} : seqK tab Γ y Q (.panic ch) st = Q (.panic ch) st := rfl
theorem seqK_ret {y : Code} {Q : Exit → St → Prop} {st : St} : seqK tab Γ y Q .ret st = Q .ret st := rfl
theorem blockK_normal {id : Nat} {Q : Exit → St → Prop} {st : St} : blockK id Q .normal st = Q .normal st := rfl
theorem blockK_exit {id j : Nat} {Q : Exit → St → Prop} {st : St} : blockK id Q (.exit j) st = if j = id then Q .normal st else Q (.exit j) st := rfl
theorem blockK_panic {id : Nat} {Q : Exit → St → Prop} {st : St} {ch : List PanicEntry} : blockK id Q (.panic ch) st = Q (.panic ch) st := rfl
theorem blockK_ret {id : Nat} {Q : Exit → St → Prop} {st : St} : blockK id Q .ret st = Q .ret st := rfl
theorem loopK_normal {X : St → Prop} {Q : Exit → St → Prop} {st : St} : loopK Q X .normal st = X st := rfl
theorem loopK_exit {X : St → Prop} {j : Nat} {Q : Exit → St → Prop} {st : St} : loopK Q X (.exit j) st = Q (.exit j) st := rfl
theorem loopK_panic {X : St → Prop} {Q : Exit → St → Prop} {st : St} {ch : List PanicEntry} : loopK Q X (.panic ch) st = Q (.panic ch) st := rfl
theorem loopK_ret {X : St → Prop} {Q : Exit → St → Prop} {st : St} : loopK Q X .ret st = Q .ret st := rfl
theorem endsF_normal {rvs : List ResultVar} {args : List Arg} {out : Out} {st : St} : EndsF tab rvs args out .normal st = Finish tab rvs args out st := rfl
theorem endsF_ret {rvs : List ResultVar} {args : List Arg} {out : Out} {st : St} : EndsF tab rvs args out .ret st = Finish tab rvs args out st := rfl
theorem endsF_panic {rvs : List ResultVar} {args : List Arg} {out : Out} {ch : List PanicEntry} {st : St} : EndsF tab rvs args out (.panic ch) st = Panics args out ch st := rfl

@[congr] theorem ex_congr {c : Code} {Q : Exit → St → Prop} {st st' : St} (h : st = st') : Ex tab Γ c Q st = Ex tab Γ c Q st' := by rw [h]
@[congr] theorem seqK_congr {y : Code} {Q : Exit → St → Prop} {e : Exit} {st st' : St} (h : st = st') : seqK tab Γ y Q e st = seqK tab Γ y Q e st' := by rw [h]
@[congr] theorem blockK_congr {id : Nat} {Q : Exit → St → Prop} {e : Exit} {st st' : St} (h : st = st') : blockK id Q e st = blockK id Q e st' := by rw [h]
@[congr] theorem loopK_congr {X : St → Prop} {Q : Exit → St → Prop} {e : Exit} {st st' : St} (h : st = st') : loopK Q X e st = loopK Q X e st' := by rw [h]
@[congr] theorem ends_congr {rvs : List ResultVar} {args : List Arg} {out : Out} {e : Exit} {st st' : St} (h : st = st') : EndsF tab rvs args out e st = EndsF tab rvs args out e st' := by rw [h]

theorem ex_skip {Q : Exit → St → Prop} {st : St} : Ex tab Γ .skip Q st = Q .normal st := rfl
theorem ex_seq {x y : Code} {Q : Exit → St → Prop} {st : St} : Ex tab Γ (.seq x y) Q st = Ex tab Γ x (seqK tab Γ y Q) st := by
  have e : seqK tab Γ y Q = (fun e st' => match e with | .normal => Ex tab Γ y Q st' | e => Q e st') := rfl
  rw [e]
  rfl
theorem ex_cond {c : Operand} {x y : Code} {Q : Exit → St → Prop} {st : St} : Ex tab Γ (.cond c x y) Q st = opt (condOf st c) fun b => br b (Ex tab Γ x Q st) (Ex tab Γ y Q st) := by
  simp only [Ex, opt, br]
  cases condOf st c <;> simp
theorem ex_block {id : Nat} {x : Code} {Q : Exit → St → Prop} {st : St} : Ex tab Γ (.block id x) Q st = Ex tab Γ x (blockK id Q) st := by
  have e : blockK id Q = (fun e st' => match e with | .exit j => if j = id then Q .normal st' else Q (.exit j) st' | e => Q e st') := rfl
  rw [e]
  rfl
theorem ex_exit {id : Nat} {Q : Exit → St → Prop} {st : St} : Ex tab Γ (.exit id) Q st = Q (.exit id) st := rfl
theorem ex_label {l : Nat} {Q : Exit → St → Prop} {st : St} : Ex tab Γ (.label l) Q st = Q .normal st := rfl
theorem ex_ret {Q : Exit → St → Prop} {st : St} : Ex tab Γ .ret Q st = Q .ret st := rfl

theorem nilK_mono {t : TypeId} {l : Lk} {F F' : Bool → Prop} (h : nilK tab t l F) (hk : ∀ b, F b → F' b) : nilK tab t l F' := by
  unfold nilK at h ⊢
  split
  · split
    · simp_all
    · split
      · simp_all
      · simp_all
  · simp_all

theorem panK_mono {s : Slot} {X X' : List PanicEntry → Ups → Prop} (h : panK s X) (hx : ∀ ch u, X ch u → X' ch u) : panK s X' := by
  cases s <;> simp only [panK] at h ⊢ <;> first | exact h.elim | exact ⟨h.1, hx _ _ h.2⟩

theorem exOpF_mono {o : Oper} {m : Nat} {st : St} {K K' : Ups → Prop} {X X' : List PanicEntry → Ups → Prop} (h : exOpF tab Γ o m st K X) (hk : ∀ u, K u → K' u) (hx : ∀ ch u, X ch u → X' ch u) : exOpF tab Γ o m st K' X' := by
  unfold exOpF at h ⊢
  split at h
  · exact opt_mono h fun ls h => opt_mono h fun u h => hk _ h
  · exact opt_mono h fun ls h => opt_mono h fun u h hl => hk _ (h hl)
  · exact opt_mono h fun l h => nilK_mono h fun b h => hk _ h
  · refine opt_mono h fun ls h => opt_mono h fun con h => opt_mono h fun as h => opt_mono h fun out h => ?_
    unfold callK at h ⊢
    split at h
    · exact opt_mono h fun p h => hx _ _ h
    · exact opt_mono h fun u h => hk _ h
  · exact opt_mono h fun l h => panK_mono h hx

theorem exL_mono {ops : Array Oper} : ∀ {l : List Oper} {m : Nat} {st : St} {K K' : Exit → St → Prop}, ExL tab Γ ops l m st K → (∀ e st, K e st → K' e st) → ExL tab Γ ops l m st K'
  | [], m, st, K, K', h, hk => hk _ _ h
  | o :: r, m, st, K, K', h, hk => by
    simp only [ExL] at h ⊢
    cases hg : gd ops st o with
    | run => rw [hg] at h; exact exOpF_mono h (fun u h => exL_mono h hk) (fun ch u h => hk _ _ h)
    | skip => rw [hg] at h; exact exL_mono h hk
    | ask b want =>
      rw [hg] at h
      exact ⟨fun e => exOpF_mono (h.1 e) (fun u h => exL_mono h hk) (fun ch u h => hk _ _ h), fun e => exL_mono (h.2 e) hk⟩
    | lost => rw [hg] at h; exact h

theorem ex_mono : ∀ {c : Code} {Q Q' : Exit → St → Prop} {st : St}, Ex tab Γ c Q st → (∀ e st, Q e st → Q' e st) → Ex tab Γ c Q' st := by
  have ops_mono : ∀ {ops : Array Oper} {l : List Oper} {m : Nat} {st : St} {tr : Tr} {K K' : St → Tr → Prop}, ExOps tab Γ ops l m st tr K → (∀ st tr, K st tr → K' st tr) → ExOps tab Γ ops l m st tr K' := by
    intro ops l
    induction l with
    | nil => intro m st tr K K' h hk; exact hk _ _ h
    | cons o r ih =>
      intro m st tr K K' h hk
      simp only [ExOps] at h ⊢
      split at h
      · obtain ⟨ls, h1, u, h2, h3⟩ := h; exact ⟨ls, h1, u, h2, ih h3 hk⟩
      · exact ih h hk
      · exact ⟨fun e => by obtain ⟨ls, h1, u, h2, h3⟩ := h.1 e; exact ⟨ls, h1, u, h2, ih h3 hk⟩, fun e => ih (h.2 e) hk⟩
      · exact h
  intro c
  induction c with
  | skip => intro Q Q' st h hq; exact hq _ _ h
  | region id ops draw =>
    intro Q Q' st h hq
    cases draw with
    | false => exact fun m => exL_mono (h m) hq
    | true => exact fun m => ops_mono (h m) fun st tr hk => ⟨hk.1, hq _ _ hk.2⟩
  | seq x y ihx ihy =>
    intro Q Q' st h hq
    rw [ex_seq] at h ⊢
    refine ihx h fun e st' hk => ?_
    cases e <;> first | exact ihy hk hq | exact hq _ _ hk
  | cond c x y ihx ihy =>
    intro Q Q' st h hq
    rw [ex_cond] at h ⊢
    exact opt_mono h fun b hb => ⟨fun e => ihx (hb.1 e) hq, fun e => ihy (hb.2 e) hq⟩
  | block id x ih =>
    intro Q Q' st h hq
    rw [ex_block] at h ⊢
    refine ih h fun e st' hk => ?_
    cases e with
    | exit j =>
      simp only [blockK] at hk ⊢
      by_cases e : j = id
      · rw [if_pos e] at hk ⊢; exact hq _ _ hk
      · rw [if_neg e] at hk ⊢; exact hq _ _ hk
    | _ => exact hq _ _ hk
  | loop x ih =>
    intro Q Q' st h hq
    obtain ⟨F, G, F2, h⟩ := h
    refine ⟨F, G, F2, fun m => ?_⟩
    obtain ⟨I, h1, h2⟩ := h m
    refine ⟨I, h1, fun n st hI => ih (h2 n st hI) fun e st' hk => ?_⟩
    cases e <;> first | exact hk | exact hq _ _ hk
  | exit id => intro Q Q' st h hq; exact hq _ _ h
  | label l => intro Q Q' st h hq; exact hq _ _ h
  | ret => intro Q Q' st h hq; exact hq _ _ h
  | rangeFunc => intro Q Q' st h hq; exact h
  | scope => intro Q Q' st h hq; exact h
  | goto => intro Q Q' st h hq; exact h
  | refuse => intro Q Q' st h hq; exact h

/-- A loop: what holds at its head (I, with a measure), and that each round keeps it. -/
theorem ex_loopG {x : Code} {Q : Exit → St → Prop} {st : St} (F : List Nat) (G : List (Nat × Ty)) (h : ∀ m, ∃ (I : Nat → St → Prop) (n : Nat), I n (opens m G (seals F st)) ∧ ∀ n st, I n st → Ex tab Γ x (loopK Q fun st' => ∃ k, k < n ∧ I k st') st) : Ex tab Γ (.loop x) Q st := by
  refine ⟨F, G, [], fun m => ?_⟩
  obtain ⟨I, n, h0, h⟩ := h m
  refine ⟨I, ⟨n, h0⟩, fun n st hI => ex_mono (h n st hI) fun e st' hk => ?_⟩
  cases e <;> exact hk
/-- Before it a nil is told as a row that is only read. -/
theorem ex_loopH {x : Code} {Q : Exit → St → Prop} {st : St} (k : Nat) (t : Ty) (hk : st k = .nil) (I : Nat → St → Prop) (n : Nat) (h0 : I n (put st k (.val (.slice t) []))) (h : ∀ n st, I n st → Ex tab Γ x (loopK Q fun st' => ∃ k, k < n ∧ I k st') st) : Ex tab Γ (.loop x) Q st := by
  refine ⟨[], [(k, t)], [k], fun m => ⟨I, ⟨n, ?_⟩, fun n st hI => ex_mono (h n st hI) fun e st' hk => by cases e <;> exact hk⟩⟩
  have e1 : opens m [(k, t)] (seals [] st) = put st k (.own m t []) := by
    show open1 m k t st = _
    unfold open1
    rw [hk]
  have e2 : seals [k] (put st k (.own m t [])) = put (put st k (.own m t [])) k (.val (.slice t) []) := by
    show seal1 k _ = _
    unfold seal1
    rw [put_same]
  have e3 : put (put st k (.own m t [])) k (.val (.slice t) []) = put st k (.val (.slice t) []) := by
    funext j
    by_cases e : j = k
    · subst e; rw [put_same, put_same]
    · rw [put_ne _ _ e, put_ne _ _ e, put_ne _ _ e]
  rw [e1, e2, e3]
  exact h0
theorem ex_loop {x : Code} {Q : Exit → St → Prop} {st : St} (I : Nat → St → Prop) (n : Nat) (h0 : I n st) (h : ∀ n st, I n st → Ex tab Γ x (loopK Q fun st' => ∃ k, k < n ∧ I k st') st) : Ex tab Γ (.loop x) Q st := ex_loopG [] [] fun _ => ⟨I, n, h0, h⟩

/-! ### Regions -/
theorem sealR_no {ops : Array Oper} {st : St} (h : risky tab ops = false) : sealR tab ops st = st := by unfold sealR; rw [h]; rfl
theorem sealR_yes {ops : Array Oper} {st : St} (h : risky tab ops = true) : sealR tab ops st = sealP (keeps tab ops) st := by unfold sealR; rw [if_pos h]
theorem sealP_at {p : Nat → Bool} {st : St} {k : Nat} : sealP p st k = sealS (p k) (st k) := rfl
theorem sealS_off {b : Bool} {n : Nat} {t : Ty} {xs : List t.den} (h : b = false) : sealS b (.own n t xs) = .own n t xs := by rw [h]; rfl
theorem sealS_on {b : Bool} {n : Nat} {t : Ty} {xs : List t.den} (h : b = true) : sealS b (.own n t xs) = .val (.slice t) xs := by rw [h]; rfl
theorem sealS_dead {b : Bool} : sealS b .dead = .dead := by cases b <;> rfl
theorem sealS_val {b : Bool} {t : Ty} {x : t.den} : sealS b (.val t x) = .val t x := by cases b <;> rfl
theorem sealS_nil {b : Bool} : sealS b .nil = .nil := by cases b <;> rfl
theorem sealS_obj {b : Bool} {n : Nat} {t : Ty} {x : t.den} : sealS b (.obj n t x) = .obj n t x := by cases b <;> rfl
theorem sealS_asl {b : Bool} {n s : Nat} {r : Option (Nat × Nat)} : sealS b (.asl n s r) = .asl n s r := by cases b <;> rfl
theorem sealS_apt {b : Bool} {n s : Nat} {p : List Way} : sealS b (.apt n s p) = .apt n s p := by cases b <;> rfl
theorem sealS_rpt {b : Bool} {t : Ty} {x : t.den} : sealS b (.rpt t x) = .rpt t x := by cases b <;> rfl
theorem sealS_tup {b : Bool} {l : List Dv} : sealS b (.tup l) = .tup l := by cases b <;> rfl
theorem sealS_clo {b : Bool} {f : FuncId} {l : List Dv} : sealS b (.clo f l) = .clo f l := by cases b <;> rfl
theorem sealS_ifc {b : Bool} {T : TypeId} {t : Ty} {x : t.den} : sealS b (.ifc T t x) = .ifc T t x := by cases b <;> rfl
theorem ex_text_no {id : Nat} {ops : Array Oper} {Q : Exit → St → Prop} {st : St} (h : risky tab ops = false) : Ex tab Γ (.region id ops false) Q st = ∀ m, ExL tab Γ ops ops.toList m st Q := by
  show (∀ m, ExL tab Γ ops ops.toList m (sealR tab ops st) Q) = _
  rw [sealR_no h]
theorem ex_text_yes {id : Nat} {ops : Array Oper} {Q : Exit → St → Prop} {st : St} (h : risky tab ops = true) : Ex tab Γ (.region id ops false) Q st = ∀ m, ExL tab Γ ops ops.toList m (sealP (keeps tab ops) st) Q := by
  show (∀ m, ExL tab Γ ops ops.toList m (sealR tab ops st) Q) = _
  rw [sealR_yes h]
theorem ex_draw_no {id : Nat} {ops : Array Oper} {Q : Exit → St → Prop} {st : St} (h : risky tab ops = false) : Ex tab Γ (.region id ops true) Q st = ∀ m, ExOps tab Γ ops ops.toList m st [] fun st' tr => Indep ops tr.reverse ∧ Q .normal st' := by
  show (∀ m, ExOps tab Γ ops ops.toList m (sealR tab ops st) [] _) = _
  rw [sealR_no h]
theorem ex_draw_yes {id : Nat} {ops : Array Oper} {Q : Exit → St → Prop} {st : St} (h : risky tab ops = true) : Ex tab Γ (.region id ops true) Q st = ∀ m, ExOps tab Γ ops ops.toList m (sealP (keeps tab ops) st) [] fun st' tr => Indep ops tr.reverse ∧ Q .normal st' := by
  show (∀ m, ExOps tab Γ ops ops.toList m (sealR tab ops st) [] _) = _
  rw [sealR_yes h]

@[congr] theorem exL_congr {ops : Array Oper} {l : List Oper} {m : Nat} {K : Exit → St → Prop} {st st' : St} (h : st = st') : ExL tab Γ ops l m st K = ExL tab Γ ops l m st' K := by rw [h]
@[congr] theorem exOps_congr {ops : Array Oper} {l : List Oper} {m : Nat} {K : St → Tr → Prop} {st st' : St} {tr tr' : Tr} (h : st = st') (ht : tr = tr') : ExOps tab Γ ops l m st tr K = ExOps tab Γ ops l m st' tr' K := by rw [h, ht]
@[congr] theorem exOp_congr {o : Oper} {m : Nat} {K : Ups → Prop} {st st' : St} (h : st = st') : exOp tab Γ o m st K = exOp tab Γ o m st' K := by rw [h]

variable {d : Option Tmp} {ty0 : TypeId} {ps : String} {af : Array Edge} {g : Option (Nat × Bool)} {m : Nat} {st : St} {ops : Array Oper} {r : List Oper} {op : Op}

theorem exL_nil {K : Exit → St → Prop} : ExL tab Γ ops [] m st K = K .normal st := rfl
theorem exOpF_eq {o : Oper} {K : Ups → Prop} {X : List PanicEntry → Ups → Prop} (h : isLen o.op = false) : exOpF tab Γ o m st K X = exOp tab Γ o m st K := by
  unfold isLen at h
  unfold exOpF exOp
  split at h
  · rename_i e; rw [e]
  · cases h
def exSel (b : Bool) (X Y : Prop) : Prop := if b = true then X else Y
@[congr] theorem exSel_congr {b b' : Bool} {X Y : Prop} (h : b = b') : exSel b X Y = exSel b' X Y := by rw [h]
theorem exSel_true {X Y : Prop} : exSel true X Y = X := rfl
theorem exSel_false {X Y : Prop} : exSel false X Y = Y := rfl
theorem exL_plain {K : Exit → St → Prop} : ExL tab Γ ops (⟨d, op, ty0, ps, af, none⟩ :: r) m st K = exSel (isLen op) (exOpF tab Γ ⟨d, op, ty0, ps, af, none⟩ m st (fun u => ExL tab Γ ops r (m + 1) (app u st) K) (fun ch u => K (.panic ch) (app u st)))
    (exOp tab Γ ⟨d, op, ty0, ps, af, none⟩ m st fun u => ExL tab Γ ops r (m + 1) (app u st) K) := by
  cases h : isLen op with
  | true => rfl
  | false =>
    rw [exSel_false]
    show exOpF tab Γ ⟨d, op, ty0, ps, af, none⟩ m st _ _ = _
    exact exOpF_eq h

/-- A guarded operation: what its guard says. -/
def gSlot (st : St) (t : Option Tmp) : Slot :=
  match t with
  | none => .tup []
  | some t => if t < ghost then st t else .dead

def gUse (s : Slot) (want : Bool) (X Y : Prop) : Prop :=
  match s with
  | .val .bool b => br (b == want) X Y
  | .tup [] => Y
  | _ => False

theorem gUse_bool {b want : Bool} {X Y : Prop} : gUse (.val .bool b) want X Y = br (b == want) X Y := rfl
theorem gUse_tup {want : Bool} {X Y : Prop} : gUse (.tup []) want X Y = Y := rfl
@[congr] theorem gUse_congr {s s' : Slot} {want : Bool} {X Y : Prop} (h : s = s') : gUse s want X Y = gUse s' want X Y := by rw [h]

theorem gd_use {j : Nat} {want : Bool} {X Y : Prop} : (match gd ops st ⟨d, op, ty0, ps, af, some (j, want)⟩ with
    | .run => X | .skip => Y | .ask b w => br (b == w) X Y | .lost => False) = gUse (gSlot st (gtmp ops j)) want X Y := by
  unfold gd gSlot gUse
  simp only
  cases gtmp ops j with
  | none => rfl
  | some t =>
    simp only
    by_cases hlt : t < ghost
    · simp only [if_pos hlt]
      cases h : st t with
      | val ty x => cases ty <;> rfl
      | tup l => cases l <;> rfl
      | _ => rfl
    · simp only [if_neg hlt]

theorem exL_guard {K : Exit → St → Prop} {j : Nat} {want : Bool} : ExL tab Γ ops (⟨d, op, ty0, ps, af, some (j, want)⟩ :: r) m st K = gUse (gSlot st (gtmp ops j)) want
    (ExL tab Γ ops (⟨d, op, ty0, ps, af, none⟩ :: r) m st K) (ExL tab Γ ops r (m + 1) (app (dstUps d (.tup [])) st) K) := by
  rw [← gd_use (d := d) (op := op) (ty0 := ty0) (ps := ps) (af := af)]
  rfl

/-- The length of a slice is one that memory can have. -/
def lenK (tab : Tab) (t : TypeId) (l : Lk) (F : Nat → Prop) : Prop := opt (lenOf? tab t l) fun n => lenFact l → F n

@[congr] theorem lenK_congr {tab : Tab} {t : TypeId} {l l' : Lk} {F : Nat → Prop} (h : l = l') : lenK tab t l F = lenK tab t l' F := by rw [h]
@[congr] theorem exOpF_congr {o : Oper} {m : Nat} {K : Ups → Prop} {X : List PanicEntry → Ups → Prop} {st st' : St} (h : st = st') : exOpF tab Γ o m st K X = exOpF tab Γ o m st' K X := by rw [h]
theorem exOpF_len {K : Ups → Prop} {X : List PanicEntry → Ups → Prop} {x : Operand} {t : TypeId} {i : Nat} : exOpF tab Γ ⟨some i, .call { callee := .builtin .len, args := #[x], argTypes := #[t] }, ty0, ps, af, none⟩ m st K X =
    opt (look st x) fun l => lenK tab t l fun n => K [(i, .val (.int .i64) (n : Int))] := by
  simp only [exOpF, opnds, looks, lenK, kd]
  cases look st x with
  | none => simp [opt]
  | some l =>
    simp only [step, stepCall]
    cases h : lenOf? tab t l with
    | none => simp [opt, h]
    | some n => simp [opt, h, into, aliasOf]
theorem exOpF_nil {K : Ups → Prop} {X : List PanicEntry → Ups → Prop} {x : Operand} {t yt : TypeId} : exOpF tab Γ ⟨d, .binOp .eql t x (.const (.slice none 0 0)) yt, ty0, ps, af, none⟩ m st K X =
    opt (look st x) fun l => nilK tab t l fun b => K (dstUps d (.val .bool b)) := by
  simp only [exOpF, kd, isNil, Bool.bne_false]
theorem exOpF_notnil {K : Ups → Prop} {X : List PanicEntry → Ups → Prop} {x : Operand} {t yt : TypeId} : exOpF tab Γ ⟨d, .binOp .neq t x (.const (.slice none 0 0)) yt, ty0, ps, af, none⟩ m st K X =
    opt (look st x) fun l => nilK tab t l fun b => K (dstUps d (.val .bool (!b))) := by
  simp only [exOpF, kd, isNil, Bool.bne_true]
theorem exOpF_call {K : Ups → Prop} {X : List PanicEntry → Ups → Prop} {f : FuncId} {args : Array Operand} {ts : Array TypeId} : exOpF tab Γ ⟨d, .call { callee := .value (.func f), args := args, argTypes := ts }, ty0, ps, af, none⟩ m st K X =
    opt (looks st args.toList) fun ls => opt (Γ f) fun con => opt (toArgsM (rowy con) ls (ts.toList.map (ty tab))) fun as => opt (con (as.map (·.arg))) fun out => callK con d m as out K X := rfl
theorem exOpF_panic {K : Ups → Prop} {X : List PanicEntry → Ups → Prop} {x : Operand} : exOpF tab Γ ⟨d, .panic x, ty0, ps, af, none⟩ m st K X = opt (look st x) fun l => panK l.s X := rfl
theorem panK_ifc {T : TypeId} {t : Ty} {x : t.den} {X : List PanicEntry → Ups → Prop} : panK (.ifc T t x) X = (flat t = true ∧ X [⟨ifcV T t x, false, false⟩] []) := rfl
@[congr] theorem panK_congr {s s' : Slot} {X : List PanicEntry → Ups → Prop} (h : s = s') : panK s X = panK s' X := by rw [h]
@[congr] theorem nilK_congr {t : TypeId} {l l' : Lk} {F : Bool → Prop} (h : l = l') : nilK tab t l F = nilK tab t l' F := by rw [h]

theorem len_str {tab : Tab} {t : TypeId} {z : ByteArray} {c : Slot} {F : Nat → Prop} (h : ty tab t = some .str) : lenK tab t ⟨.val .str z, c⟩ F = F z.size := by
  have hf : lenFact ⟨.val .str z, c⟩ = True := by simp [lenFact, slc]
  simp [lenK, lenOf?, h, opt, hf]
theorem len_val {tab : Tab} {t : TypeId} {u : Ty} {xs : List u.den} {c : Slot} {F : Nat → Prop} : lenK tab t ⟨.val (.slice u) xs, c⟩ F = onLen (ty tab t) (xs.length ≤ maxLen → F xs.length) (fun n => xs.length ≤ maxLen → F n) := by
  simp only [lenK, lenOf?]
  have hf : lenFact ⟨.val (.slice u) xs, c⟩ = (xs.length ≤ maxLen) := by
    simp only [lenFact, slc, Option.some.injEq]
    exact propext ⟨fun h => h _ rfl, fun h x e => by subst e; exact h⟩
  cases ty tab t with
  | none => simp [opt, onLen]
  | some T => cases T <;> simp [opt, hf, slc, onLen]
theorem len_row {tab : Tab} {t : TypeId} {u : Ty} {xs : List u.den} {n s : Nat} {F : Nat → Prop} : lenK tab t ⟨.asl n s none, .own n u xs⟩ F = onLen (ty tab t) (xs.length ≤ maxLen → F xs.length) (fun n => xs.length ≤ maxLen → F n) := by
  simp only [lenK, lenOf?]
  have hf : lenFact ⟨.asl n s none, .own n u xs⟩ = (xs.length ≤ maxLen) := by
    simp only [lenFact, slc, if_true, Option.some.injEq]
    exact propext ⟨fun h => h _ rfl, fun h x e => by subst e; exact h⟩
  cases ty tab t with
  | none => simp [opt, onLen]
  | some T => cases T <;> simp [opt, hf, slc, onLen]
theorem len_part {tab : Tab} {t : TypeId} {u : Ty} {xs : List u.den} {n s lo len : Nat} {F : Nat → Prop} : lenK tab t ⟨.asl n s (some (lo, len)), .own n u xs⟩ F = onLen (ty tab t) (((xs.drop lo).take len).length ≤ maxLen → F ((xs.drop lo).take len).length) (fun n => ((xs.drop lo).take len).length ≤ maxLen → F n) := by
  simp only [lenK, lenOf?]
  have hf : lenFact ⟨.asl n s (some (lo, len)), .own n u xs⟩ = (((xs.drop lo).take len).length ≤ maxLen) := by
    simp only [lenFact, slc, if_true, Option.some.injEq]
    exact propext ⟨fun h => h _ rfl, fun h x e => by subst e; exact h⟩
  cases ty tab t with
  | none => simp [opt, onLen]
  | some T => cases T <;> simp [opt, hf, slc, onLen]
theorem len_nil {tab : Tab} {t : TypeId} {c : Slot} {F : Nat → Prop} : lenK tab t ⟨.nil, c⟩ F = onLen (ty tab t) (F 0) (fun n => F n) := by
  simp only [lenK, lenOf?]
  have hf : lenFact ⟨.nil, c⟩ = True := by cases c <;> simp [lenFact, slc]
  cases ty tab t with
  | none => simp [opt, onLen]
  | some T => cases T <;> simp [opt, hf, onLen]

theorem exO_nil {tr : Tr} {K : St → Tr → Prop} : ExOps tab Γ ops [] m st tr K = K st tr := rfl
theorem exO_plain {tr : Tr} {K : St → Tr → Prop} : ExOps tab Γ ops (⟨d, op, ty0, ps, af, none⟩ :: r) m st tr K =
    exOp tab Γ ⟨d, op, ty0, ps, af, none⟩ m st fun u => ExOps tab Γ ops r (m + 1) (app u st) ((rds ops st ⟨d, op, ty0, ps, af, none⟩, keys u) :: tr) K := rfl
theorem exO_guard {tr : Tr} {K : St → Tr → Prop} {j : Nat} {want : Bool} : ExOps tab Γ ops (⟨d, op, ty0, ps, af, some (j, want)⟩ :: r) m st tr K = gUse (gSlot st (gtmp ops j)) want
    (exOp tab Γ ⟨d, op, ty0, ps, af, none⟩ m st fun u => ExOps tab Γ ops r (m + 1) (app u st) ((rds ops st ⟨d, op, ty0, ps, af, some (j, want)⟩, keys u) :: tr) K)
    (ExOps tab Γ ops r (m + 1) (app (dstUps d (.tup [])) st) ((rds ops st ⟨d, op, ty0, ps, af, some (j, want)⟩, keys (dstUps d (.tup []))) :: tr) K) := by
  rw [← gd_use (d := d) (op := op) (ty0 := ty0) (ps := ps) (af := af)]
  simp only [ExOps]
  cases gd ops st ⟨d, op, ty0, ps, af, some (j, want)⟩ with
  | ask b w =>
    simp only [br, beq_iff_eq, beq_eq_false_iff_ne]
    rfl
  | _ => rfl
end
end Go.Tm

/- Rules by which simp steps through single operations. -/
set_option linter.unusedVariables false
set_option linter.unusedSimpArgs false
namespace Go.Tm

section
variable {tab : Tab} {Γ : Cons} {d : Option Tmp} {ty0 : TypeId} {ps : String} {af : Array Edge} {g : Option (Nat × Bool)} {m : Nat} {st : St} {K : Ups → Prop} {x y z : Operand} {t t2 : TypeId}

theorem looks0 {F : List Lk → Prop} : opt (looks st []) F = F [] := by simp [opt, looks]
theorem looks_next {r : List Operand} {F : List Lk → Prop} : opt (looks st (x :: r)) F = opt (look st x) fun l => opt (looks st r) fun ls => F (l :: ls) := by
  simp only [looks, opt]
  cases look st x <;> cases looks st r <;> simp
theorem looks1 {F : List Lk → Prop} : opt (looks st [x]) F = opt (look st x) fun l => F [l] := by rw [looks_next]; simp only [looks0]
theorem looks2 {F : List Lk → Prop} : opt (looks st [x, y]) F = opt (look st x) fun l => opt (look st y) fun k => F [l, k] := by rw [looks_next]; simp only [looks1]
theorem looks3 {F : List Lk → Prop} : opt (looks st [x, y, z]) F = opt (look st x) fun l => opt (look st y) fun k => opt (look st z) fun j => F [l, k, j] := by rw [looks_next]; simp only [looks2]

theorem opt_bind {α : Type} {s : Option α} {f : α → Option Ups} : opt (match s with | some a => f a | none => none) K = opt s fun a => opt (f a) K := by
  cases s <;> simp [opt]
theorem opt_bind2 {α : Type} {s : Option α} {G : Ups → Prop} {f : α → Option Ups} : opt (match s with | some a => f a | none => none) G = opt s fun a => opt (f a) G := by
  cases s <;> simp [opt]

def seen (st : St) (s : Slot) : Lk := ⟨s, match aliasOf s with | some (_, k) => st k | none => .dead⟩
theorem look_tmp {k : Nat} : look st (.tmp k) = if k < ghost then some (seen st (self k (st k))) else none := by
  simp only [look, ref]
  split <;> rfl
theorem look_func {f : FuncId} : look st (.func f) = some ⟨.clo f [], .dead⟩ := rfl
theorem look_const {v : Value} : look st (.const v) = (cst v).map fun s => ⟨s, .dead⟩ := by
  simp only [look, ref]
  cases h : cst v with
  | none => rfl
  | some s => simp only [Option.map_some, (cst_low h).2]
theorem cst_int {k : IntKind} {n : Int} : cst (.int k n) = some (.val (.int k) n) := rfl
theorem cst_bool {b : Bool} : cst (.bool b) = some (.val .bool b) := rfl
theorem cst_str {s : ByteArray} : cst (.string s) = some (.val .str s) := rfl
theorem cst_nil : cst (.slice none 0 0) = some .nil := rfl
theorem cst_ptr : cst (.pointer none) = some .dead := rfl

theorem seen_val {u : Ty} {v : u.den} : seen st (.val u v) = ⟨.val u v, .dead⟩ := rfl
theorem seen_nil : seen st .nil = ⟨.nil, .dead⟩ := rfl
theorem seen_dead : seen st .dead = ⟨.dead, .dead⟩ := rfl
theorem seen_asl {n k : Nat} {rg : Option (Nat × Nat)} : seen st (.asl n k rg) = ⟨.asl n k rg, st k⟩ := rfl
theorem seen_apt {n k : Nat} {p : List Way} : seen st (.apt n k p) = ⟨.apt n k p, st k⟩ := rfl
theorem seen_rpt {u : Ty} {v : u.den} : seen st (.rpt u v) = ⟨.rpt u v, .dead⟩ := rfl
theorem seen_clo {f : FuncId} {l : List Dv} : seen st (.clo f l) = ⟨.clo f l, .dead⟩ := rfl
theorem seen_tup {l : List Dv} : seen st (.tup l) = ⟨.tup l, .dead⟩ := rfl
theorem self_val {k : Nat} {u : Ty} {v : u.den} : self k (.val u v) = .val u v := rfl
theorem self_nil {k : Nat} : self k .nil = .nil := rfl
theorem self_dead {k : Nat} : self k .dead = .dead := rfl
theorem self_own {k n : Nat} {u : Ty} {v : List u.den} : self k (.own n u v) = .asl n k none := rfl
theorem self_obj {k n : Nat} {u : Ty} {v : u.den} : self k (.obj n u v) = .apt n k [] := rfl
theorem self_asl {k n s : Nat} {rg : Option (Nat × Nat)} : self k (.asl n s rg) = .asl n s rg := rfl
theorem self_apt {k n s : Nat} {p : List Way} : self k (.apt n s p) = .apt n s p := rfl
theorem self_clo {k : Nat} {f : FuncId} {l : List Dv} : self k (.clo f l) = .clo f l := rfl
theorem self_rpt {k : Nat} {u : Ty} {v : u.den} : self k (.rpt u v) = .rpt u v := rfl
theorem self_tup {k : Nat} {l : List Dv} : self k (.tup l) = .tup l := rfl
theorem put_at {α : Type} {f : Nat → α} {i k : Nat} {s : α} : put f i s k = if k = i then s else f k := rfl
theorem condOf_look {c : Operand} {G : Bool → Prop} : opt (condOf st c) G = opt (look st c) fun l => match l.s with | .val .bool b => G b | _ => False := by
  simp only [condOf, look, opt]
  cases h : ref st c with
  | none => simp
  | some s =>
    cases s with
    | val u v => cases u <;> simp
    | _ => simp

theorem exOp_move : exOp tab Γ ⟨d, .move x, ty0, ps, af, g⟩ m st K = opt (look st x) fun l => opt (into d l.s) K := by
  show opt (looks st [x]) _ = _; rw [looks1]; rfl
theorem exOp_assign : exOp tab Γ ⟨d, .assign x, ty0, ps, af, g⟩ m st K = opt (look st x) fun l => opt (stepAssign d m l) K := by
  show opt (looks st [x]) _ = _; rw [looks1]; rfl
theorem exOp_pick : exOp tab Γ ⟨d, .pick x y z, ty0, ps, af, g⟩ m st K = opt (look st x) fun l => opt (look st y) fun k => opt (look st z) fun j => opt (stepPick d l k j) K := by
  show opt (looks st [x, y, z]) _ = _; rw [looks3]; rfl
theorem exOp_alloc {e : TypeId} : exOp tab Γ ⟨d, .alloc e, ty0, ps, af, g⟩ m st K = opt d fun i => opt (ty tab e) fun u => K [(i, .obj m u u.dflt)] := by
  show opt (looks st []) _ = _
  rw [looks0]
  simp only [step]
  cases d <;> cases ty tab e <;> simp [opt]
theorem exOp_box {e : TypeId} : exOp tab Γ ⟨d, .box e x, ty0, ps, af, g⟩ m st K = opt (look st x) fun l => opt d fun i => opt (frz l (ty tab e)) fun r => K (r.2 ++ [(i, .obj m r.1.1 r.1.2)]) := by
  show opt (looks st [x]) _ = _
  rw [looks1]
  simp only [step]
  congr 1
  funext l
  cases d <;> cases frz l (ty tab e) <;> simp [opt]
theorem exOp_load : exOp tab Γ ⟨d, .load t x, ty0, ps, af, g⟩ m st K = opt (look st x) fun l => opt (aim l) fun v => ty tab t = some v.1 ∧ opt (into d (.val v.1 v.2)) K := by
  show opt (looks st [x]) _ = _
  rw [looks1]
  simp only [step]
  congr 1
  funext l
  cases aim l with
  | none => simp [opt]
  | some v => simp only [opt_some, opt_ite]
theorem exOp_store : exOp tab Γ ⟨none, .store t x y, ty0, ps, af, g⟩ m st K = opt (look st x) fun l => opt (look st y) fun k => opt (stepStore tab t l k) K := by
  show opt (looks st [x, y]) _ = _; rw [looks2]; rfl
theorem exOp_nilCheck : exOp tab Γ ⟨d, .nilCheck x, ty0, ps, af, g⟩ m st K = opt (look st x) fun l => opt (aim l) fun _ => opt (into d l.s) K := by
  show opt (looks st [x]) _ = _
  rw [looks1]
  simp only [step]
  congr 1
  funext l
  cases aim l <;> simp [opt]
theorem exOp_bin {op : BinOp} : exOp tab Γ ⟨d, .binOp op t x y t2, ty0, ps, af, g⟩ m st K = opt (look st x) fun l => opt (look st y) fun k => opt (stepBin tab op t d l k) K := by
  show opt (looks st [x, y]) _ = _; rw [looks2]; rfl
theorem exOp_un {op : UnOp} : exOp tab Γ ⟨d, .unOp op t x, ty0, ps, af, g⟩ m st K = opt (look st x) fun l => opt (stepUn op d l) K := by
  show opt (looks st [x]) _ = _; rw [looks1]; rfl
theorem exOp_convert : exOp tab Γ ⟨d, .convert t t2 x, ty0, ps, af, g⟩ m st K = opt (look st x) fun l => opt (stepConvert tab t t2 d m l) K := by
  show opt (looks st [x]) _ = _; rw [looks1]; rfl
theorem exOp_make : exOp tab Γ ⟨d, .makeSlice t x y, ty0, ps, af, g⟩ m st K = opt (look st x) fun l => opt (look st y) fun k => opt (stepMake tab t d m l k) K := by
  show opt (looks st [x, y]) _ = _; rw [looks2]; rfl
theorem exOp_slice0 : exOp tab Γ ⟨d, .slice t x none none none, ty0, ps, af, g⟩ m st K = opt (look st x) fun l => opt (stepSl tab t d l none none) K := by
  show opt (looks st [x]) _ = _; rw [looks1]; simp only [step]
theorem exOp_slice1 : exOp tab Γ ⟨d, .slice t x (some y) none none, ty0, ps, af, g⟩ m st K = opt (look st x) fun l => opt (look st y) fun k => opt (stepSl tab t d l (some k) none) K := by
  show opt (looks st [x, y]) _ = _; rw [looks2]; simp only [step]
theorem exOp_slice2 : exOp tab Γ ⟨d, .slice t x none (some y) none, ty0, ps, af, g⟩ m st K = opt (look st x) fun l => opt (look st y) fun k => opt (stepSl tab t d l none (some k)) K := by
  show opt (looks st [x, y]) _ = _; rw [looks2]; simp only [step]
theorem exOp_slice3 : exOp tab Γ ⟨d, .slice t x (some y) (some z) none, ty0, ps, af, g⟩ m st K = opt (look st x) fun l => opt (look st y) fun k => opt (look st z) fun j => opt (stepSl tab t d l (some k) (some j)) K := by
  show opt (looks st [x, y, z]) _ = _; rw [looks3]; simp only [step]
theorem exOp_fieldAddr {f : Nat} : exOp tab Γ ⟨d, .fieldAddr t x f, ty0, ps, af, g⟩ m st K = opt (look st x) fun l => opt (stepFieldAddr tab t l f) fun s => opt (into d s) K := by
  show opt (looks st [x]) _ = _; rw [looks1]; simp only [step]; congr 1; funext l; generalize stepFieldAddr tab t l f = q; cases q <;> simp only [opt_none, opt_some]
theorem exOp_field {f : Nat} : exOp tab Γ ⟨d, .field t x f, ty0, ps, af, g⟩ m st K = opt (look st x) fun l => match l.s with
    | .val u v => ty tab t = some u ∧ opt (get u v [.fld f]) fun w => opt (into d (.val w.1 w.2)) K
    | _ => False := by
  show opt (looks st [x]) _ = _
  rw [looks1]
  congr 1
  funext l
  obtain ⟨s, c⟩ := l
  cases s <;> simp only [step, opt_none, opt_ite]
  rename_i u v
  congr 1
  generalize get u v [.fld f] = q; cases q <;> simp only [opt_none, opt_some]
theorem exOp_indexAddr : exOp tab Γ ⟨d, .indexAddr t x y, ty0, ps, af, g⟩ m st K = opt (look st x) fun l => opt (look st y) fun k => opt (stepIndexAddr tab t l k) fun s => opt (into d s) K := by
  show opt (looks st [x, y]) _ = _; rw [looks2]; simp only [step]; congr 1; funext l; congr 1; funext k; generalize stepIndexAddr tab t l k = q; cases q <;> simp only [opt_none, opt_some]
theorem exOp_index : exOp tab Γ ⟨d, .index t x y, ty0, ps, af, g⟩ m st K = opt (look st x) fun l => opt (look st y) fun k => opt (stepIndex tab t d l k) K := by
  show opt (looks st [x, y]) _ = _; rw [looks2]; rfl
theorem exOp_extract {j : Nat} : exOp tab Γ ⟨d, .extract x j, ty0, ps, af, g⟩ m st K = opt (look st x) fun l => match l.s with
    | .tup ds => opt ds[j]? fun w => opt (into d (.val w.1 w.2)) K
    | _ => False := by
  show opt (looks st [x]) _ = _
  rw [looks1]
  congr 1
  funext l
  obtain ⟨s, c⟩ := l
  cases s <;> simp only [step, opt_none]
  rename_i ds
  generalize ds[j]? = q; cases q <;> simp only [opt_none, opt_some]

theorem exOp_build {parts : Array (Nat × Operand)} : exOp tab Γ ⟨d, .build t parts, ty0, ps, af, g⟩ m st K = opt (looks st (parts.toList.map (·.2))) fun ls => opt (stepBuild tab t (parts.toList.map (·.1)) d ls) K := by
  unfold exOp
  simp only [opnds]
  congr 1
theorem exOp_buildSlice {n : Nat} {parts : Array (Nat × Operand)} : exOp tab Γ ⟨d, .buildSlice t n parts, ty0, ps, af, g⟩ m st K = opt (looks st (parts.toList.map (·.2))) fun ls => opt (stepBuildSlice tab t n (parts.toList.map (·.1)) d m ls) K := by
  unfold exOp
  simp only [opnds]
  congr 1
theorem exOp_call {c : Call} : exOp tab Γ ⟨d, .call c, ty0, ps, af, g⟩ m st K = opt (looks st (opnds (.call c))) fun ls => opt (stepCall tab Γ c d m ls) K := by
  unfold exOp
  congr 1

end
end Go.Tm

/- Rules by which simp sees what a step turns. -/
set_option linter.unusedVariables false
set_option linter.unusedSimpArgs false
namespace Go.Tm

section
variable {tab : Tab} {Γ : Cons} {d : Option Tmp} {m : Nat} {st : St} {K : Ups → Prop} {t t2 : TypeId} {c c' : Slot} {u u' : Ty} {n s n' : Nat} {lo len : Nat}

theorem opt_ite_none {α : Type} {p : Prop} [Decidable p] {x : Option α} {K : α → Prop} : opt (if p then none else x) K = (¬ p ∧ opt x K) := by
  by_cases h : p <;> simp [h, opt]
theorem opt_cast {u : Ty} {x : u.den} {F : u.den → Prop} : opt (castTo u u x) F = F x := by simp [opt]
theorem bind_opt {α β : Type} {o : Option α} {f : α → Option β} {F : β → Prop} : opt (match o with | some a => f a | none => none) F = opt o fun a => opt (f a) F := by
  cases o <;> simp [opt]

theorem into_none {s : Slot} : opt (into none s) K = K [] := by simp [into, opt]
theorem into_dst {i : Nat} {s : Slot} : opt (into (some i) s) K = ((aliasOf s).map (·.2) ≠ some i ∧ K [(i, s)]) := by
  simp only [into, opt_ite_none, opt_some, ne_eq]
theorem into_v {i : Nat} {v : u.den} : opt (into (some i) (.val u v)) K = K [(i, .val u v)] := by simp [into_dst, aliasOf]
theorem into_nil {i : Nat} : opt (into (some i) .nil) K = K [(i, .nil)] := by simp [into_dst, aliasOf]
theorem into_dead {i : Nat} : opt (into (some i) .dead) K = K [(i, .dead)] := by simp [into_dst, aliasOf]
theorem into_rpt {i : Nat} {v : u.den} : opt (into (some i) (.rpt u v)) K = K [(i, .rpt u v)] := by simp [into_dst, aliasOf]
theorem into_clo {i : Nat} {f : FuncId} {l : List Dv} : opt (into (some i) (.clo f l)) K = K [(i, .clo f l)] := by simp [into_dst, aliasOf]
theorem into_tup {i : Nat} {l : List Dv} : opt (into (some i) (.tup l)) K = K [(i, .tup l)] := by simp [into_dst, aliasOf]
theorem into_asl {i : Nat} {rg : Option (Nat × Nat)} : opt (into (some i) (.asl n s rg)) K = (s ≠ i ∧ K [(i, .asl n s rg)]) := by simp [into_dst, aliasOf]
theorem into_apt {i : Nat} {p : List Way} : opt (into (some i) (.apt n s p)) K = (s ≠ i ∧ K [(i, .apt n s p)]) := by simp [into_dst, aliasOf]

theorem assign_none {l : Lk} : opt (stepAssign none m l) K = K [] := by simp [stepAssign, opt]
theorem assign_v {i : Nat} {v : u.den} : opt (stepAssign (some i) m ⟨.val u v, c⟩) K = K [(i, .val u v)] := by simp only [stepAssign, into_v]
theorem assign_nil {i : Nat} : opt (stepAssign (some i) m ⟨.nil, c⟩) K = K [(i, .nil)] := by simp only [stepAssign, into_nil]
theorem assign_dead {i : Nat} : opt (stepAssign (some i) m ⟨.dead, c⟩) K = K [(i, .dead)] := by simp only [stepAssign, into_dead]
theorem assign_rpt {i : Nat} {v : u.den} : opt (stepAssign (some i) m ⟨.rpt u v, c⟩) K = K [(i, .rpt u v)] := by simp only [stepAssign, into_rpt]
theorem assign_tup {i : Nat} {l : List Dv} : opt (stepAssign (some i) m ⟨.tup l, c⟩) K = K [(i, .tup l)] := by simp only [stepAssign, into_tup]
theorem assign_row {i : Nat} {xs : List u.den} : opt (stepAssign (some i) m ⟨.asl n s none, .own n' u xs⟩) K = (n = n' ∧ if s = i then K [] else K [(s, .asl m i none), (i, .own m u xs)]) := by
  simp only [stepAssign, opt_ite]
  by_cases h : s = i <;> simp [h, opt]
theorem assign_part {i : Nat} {xs : List u.den} : opt (stepAssign (some i) m ⟨.asl n s (some (lo, len)), .own n' u xs⟩) K = (n = n' ∧ if s = i then K [(i, .own m u ((xs.drop lo).take len))] else K [(i, .asl n s (some (lo, len)))]) := by
  simp only [stepAssign, opt_ite]
  by_cases h : s = i <;> simp [h, opt]
theorem assign_obj {i : Nat} {v : u.den} : opt (stepAssign (some i) m ⟨.apt n s [], .obj n' u v⟩) K = (n = n' ∧ if s = i then K [] else if ghost ≤ s then K [(i, .apt n s [])] else K [(s, .apt m i []), (i, .obj m u v)]) := by
  simp only [stepAssign, opt_ite]
  by_cases h : s = i
  · simp [h, opt]
  · by_cases h2 : ghost ≤ s <;> simp [h, h2, opt]
theorem assign_apt {i : Nat} {q : Way} {p : List Way} : opt (stepAssign (some i) m ⟨.apt n s (q :: p), c⟩) K = (s ≠ i ∧ K [(i, .apt n s (q :: p))]) := by
  rw [← into_apt]; cases c <;> simp only [stepAssign]

theorem frz_val {v : u.den} {w : Option Ty} {F : Dv × Ups → Prop} : opt (frz ⟨.val u v, c⟩ w) F = F (⟨u, v⟩, []) := by simp [frz, opt]
theorem frz_nil {F : Dv × Ups → Prop} : opt (frz ⟨.nil, c⟩ (some (.slice u))) F = F (⟨.slice u, []⟩, []) := by simp [frz, opt]
theorem frz_row {xs : List u.den} {w : Option Ty} {F : Dv × Ups → Prop} : opt (frz ⟨.asl n s none, .own n' u xs⟩ w) F = (n = n' ∧ F (⟨.slice u, xs⟩, [(s, .val (.slice u) xs)])) := by
  simp only [frz, opt_ite, opt_some]
theorem frz_part {xs : List u.den} {w : Option Ty} {F : Dv × Ups → Prop} : opt (frz ⟨.asl n s (some (lo, len)), .own n' u xs⟩ w) F = (n = n' ∧ F (⟨.slice u, (xs.drop lo).take len⟩, [(s, .val (.slice u) xs)])) := by
  simp only [frz, opt_ite, opt_some]

theorem aim_rpt {v : u.den} {F : Dv → Prop} : opt (aim ⟨.rpt u v, c⟩) F = F ⟨u, v⟩ := by simp [aim, opt]
theorem aim_obj {v : u.den} {p : List Way} {F : Dv → Prop} : opt (aim ⟨.apt n s p, .obj n' u v⟩) F = (n = n' ∧ opt (get u v p) F) := by
  cases p <;> simp only [aim, opt_ite]
theorem aim_own {xs : List u.den} {q : Way} {p : List Way} {F : Dv → Prop} : opt (aim ⟨.apt n s (q :: p), .own n' u xs⟩) F = (n = n' ∧ opt (get (.arr 0 u) xs (q :: p)) F) := by
  simp only [aim, opt_ite]

theorem get_nil {v : u.den} {F : Dv → Prop} : opt (get u v []) F = F ⟨u, v⟩ := by cases u <;> simp [get, opt]
theorem get_fst {a b : Ty} {v : (Ty.prod a b).den} {p : List Way} {F : Dv → Prop} : opt (get (.prod a b) v (.fld 0 :: p)) F = opt (get a v.1 p) F := rfl
theorem get_snd {a b : Ty} {v : (Ty.prod a b).den} {j : Nat} {p : List Way} {F : Dv → Prop} : opt (get (.prod a b) v (.fld (j + 1) :: p)) F = opt (get b v.2 (.fld j :: p)) F := rfl
theorem get_idx {k i : Nat} {xs : List u.den} {p : List Way} {F : Dv → Prop} : opt (get (.arr k u) xs (.idx i :: p)) F = (i < xs.length ∧ opt (get u (xs.getD i u.dflt) p) F) := by
  simp only [get]
  by_cases h : i < xs.length
  · simp [h, List.getD_eq_getElem?_getD]
  · simp [h, opt]

/-- A part of a value is turned. -/
def updK (u : Ty) (v : u.den) (p : List Way) (u' : Ty) (y : u'.den) (F : u.den → Prop) : Prop := opt (upd u v p u' y) F
def castK (u t : Ty) (x : u.den) (F : t.den → Prop) : Prop := opt (castTo u t x) F
@[congr] theorem updK_congr {u u' : Ty} {v v2 : u.den} {p p2 : List Way} {y y2 : u'.den} {F : u.den → Prop} (h : v = v2) (hp : p = p2) (hy : y = y2) : updK u v p u' y F = updK u v2 p2 u' y2 F := by rw [h, hp, hy]
@[congr] theorem castK_congr {u t : Ty} {x x2 : u.den} {F : t.den → Prop} (h : x = x2) : castK u t x F = castK u t x2 F := by rw [h]
theorem castK_self {u : Ty} {x : u.den} {F : u.den → Prop} : castK u u x F = F x := opt_cast
theorem updo_nil {v : u.den} {y : u'.den} {F : u.den → Prop} : updK u v [] u' y F = castK u' u y F := by cases u <;> rfl
theorem upd_fst {a b : Ty} {v : (Ty.prod a b).den} {p : List Way} {y : u'.den} {F : (Ty.prod a b).den → Prop} : updK (.prod a b) v (.fld 0 :: p) u' y F = updK a v.1 p u' y fun z => F (z, v.2) := by
  simp only [updK, upd, opt_map]
theorem upd_snd {a b : Ty} {v : (Ty.prod a b).den} {j : Nat} {p : List Way} {y : u'.den} {F : (Ty.prod a b).den → Prop} : updK (.prod a b) v (.fld (j + 1) :: p) u' y F = updK b v.2 (.fld j :: p) u' y fun z => F (v.1, z) := by
  simp only [updK, upd, opt_map]
theorem upd_idx {k i : Nat} {xs : List u.den} {p : List Way} {y : u'.den} {F : List u.den → Prop} : updK (.arr k u) xs (.idx i :: p) u' y F = (i < xs.length ∧ updK u (xs.getD i u.dflt) p u' y fun z => F (xs.set i z)) := by
  simp only [updK, upd]
  by_cases h : i < xs.length
  · simp only [h, List.getElem?_eq_getElem, true_and, List.getD_eq_getElem?_getD, Option.getD_some]
    rw [opt_map]
  · simp [h, opt]

theorem store_obj {v : u.den} {p : List Way} {l : Lk} : opt (stepStore tab t ⟨.apt n s p, .obj n' u v⟩ l) K = opt (frz l (ty tab t)) fun r => ty tab t = some r.1.1 ∧ n = n' ∧ updK u v p r.1.1 r.1.2 fun z => K ((s, .obj n' u z) :: r.2) := by
  simp only [stepStore, updK]
  cases frz l (ty tab t) with
  | none => simp [opt]
  | some r =>
    simp only [opt_some]
    by_cases h1 : ty tab t = some r.1.1
    · by_cases h2 : n = n'
      · simp only [h1, h2, if_true, true_and]
        cases p <;> (cases upd u v _ r.1.1 r.1.2 <;> simp [opt])
      · cases p <;> simp [h1, h2, opt]
    · simp [h1, opt]

theorem store_own {xs : List u.den} {q : Way} {p : List Way} {l : Lk} : opt (stepStore tab t ⟨.apt n s (q :: p), .own n' u xs⟩ l) K = opt (frz l (ty tab t)) fun r => ty tab t = some r.1.1 ∧ (n = n' ∧ r.2.all (fun z => decide (z.1 ≠ s)) = true) ∧ updK (.arr 0 u) xs (q :: p) r.1.1 r.1.2 fun z => K ((s, .own n u z) :: r.2) := by
  simp only [stepStore, updK]
  cases frz l (ty tab t) with
  | none => simp [opt]
  | some r =>
    simp only [opt_some]
    by_cases h1 : ty tab t = some r.1.1
    · by_cases h2 : n = n' ∧ r.2.all (fun z => decide (z.1 ≠ s)) = true
      · rw [if_pos h1, if_pos h2]
        simp only [h1, h2, true_and]
        cases upd (.arr 0 u) xs (q :: p) r.1.1 r.1.2 <;> simp [opt]
      · rw [if_pos h1, if_neg h2]
        simp only [opt_none, h1, true_and]
        simp only [h2, false_and]
    · rw [if_neg h1]
      simp [h1, opt]

theorem ixa_val {k : IntKind} {i : Int} {xs : List u.den} {F : Slot → Prop} : opt (stepIndexAddr tab t ⟨.val (.slice u) xs, c⟩ ⟨.val (.int k) i, c'⟩) F = (ty tab t = some (.slice u) ∧ (0 ≤ i ∧ i < (xs.length : Int)) ∧ F (.rpt u (xs.getD i.toNat u.dflt))) := by
  simp only [stepIndexAddr, intOf?]
  cases h : ty tab t with
  | none => simp [opt]
  | some T =>
    cases T with
    | slice v =>
      by_cases e : u = v
      · subst e
        simp only [if_true, opt_ite, opt_some, true_and]
      · have : ¬ v = u := fun h => e h.symm
        simp [e, this, opt]
    | arr k v => simp [aim, opt]
    | _ => simp [opt]
theorem ixa_row {k : IntKind} {i : Int} {xs : List u.den} {F : Slot → Prop} : opt (stepIndexAddr tab t ⟨.asl n s none, .own n' u xs⟩ ⟨.val (.int k) i, c'⟩) F = (ty tab t = some (.slice u) ∧ n = n' ∧ (0 ≤ i ∧ i < (xs.length : Int)) ∧ F (.apt n s [.idx i.toNat])) := by
  simp only [stepIndexAddr, intOf?]
  cases h : ty tab t with
  | none => simp [opt]
  | some T =>
    cases T with
    | slice v =>
      by_cases e : u = v
      · subst e
        simp only [and_true, opt_ite, opt_some, true_and]
      · have : ¬ v = u := fun h => e h.symm
        simp [e, this, opt]
    | arr k v => simp [aim, opt]
    | _ => simp [opt]
theorem ixa_part {k : IntKind} {i : Int} {xs : List u.den} {F : Slot → Prop} : opt (stepIndexAddr tab t ⟨.asl n s (some (lo, len)), .own n' u xs⟩ ⟨.val (.int k) i, c'⟩) F = (ty tab t = some (.slice u) ∧ n = n' ∧ (0 ≤ i ∧ i < (len : Int)) ∧ F (.apt n s [.idx (lo + i.toNat)])) := by
  simp only [stepIndexAddr, intOf?]
  cases h : ty tab t with
  | none => simp [opt]
  | some T =>
    cases T with
    | slice v =>
      by_cases e : u = v
      · subst e
        simp only [and_true, opt_ite, opt_some, true_and]
      · have : ¬ v = u := fun h => e h.symm
        simp [e, this, opt]
    | arr k v => simp [aim, opt]
    | _ => simp [opt]

/-- An element of an array that an address leads to. -/
def arrAt (tab : Tab) (t : TypeId) (i : Int) (w : Dv) (F : (u : Ty) → u.den → Prop) : Prop :=
  match w with
  | ⟨.arr k u, xs⟩ => ty tab t = some (.arr k u) ∧ (0 ≤ i ∧ i < (k : Int)) ∧ F u (xs.getD i.toNat u.dflt)
  | _ => False
@[congr] theorem arrAt_congr {i i2 : Int} {w w2 : Dv} {F : (u : Ty) → u.den → Prop} (h : i = i2) (hw : w = w2) : arrAt tab t i w F = arrAt tab t i2 w2 F := by rw [h, hw]
theorem arrAt_arr {k : Nat} {xs : List u.den} {i : Int} {F : (u : Ty) → u.den → Prop} : arrAt tab t i ⟨.arr k u, xs⟩ F = (ty tab t = some (.arr k u) ∧ (0 ≤ i ∧ i < (k : Int)) ∧ F u (xs.getD i.toNat u.dflt)) := rfl

theorem ixa_rpt {k : IntKind} {i : Int} {v : u.den} {F : Slot → Prop} : opt (stepIndexAddr tab t ⟨.rpt u v, c⟩ ⟨.val (.int k) i, c'⟩) F = arrAt tab t i ⟨u, v⟩ fun u' y => F (.rpt u' y) := by
  simp only [stepIndexAddr, intOf?]
  cases h : ty tab t with
  | none => cases u <;> simp [opt, arrAt, h]
  | some T =>
    cases T with
    | arr k v' =>
      cases u with
      | arr k' u' =>
        simp only [aim, arrAt, h]
        by_cases e1 : k' = k
        · by_cases e2 : u' = v'
          · subst e1 e2
            simp only [and_self, if_true, opt_ite, opt_some, true_and]
          · have : ¬ v' = u' := fun h => e2 h.symm
            simp [e2, this, opt]
        · have : ¬ k = k' := fun h => e1 h.symm
          simp [e1, this, opt]
      | _ => simp [aim, arrAt, opt]
    | _ => cases u <;> simp [opt, arrAt, h]
theorem ixa_apt {k : IntKind} {i : Int} {p : List Way} {F : Slot → Prop} : opt (stepIndexAddr tab t ⟨.apt n s p, c⟩ ⟨.val (.int k) i, c'⟩) F = opt (aim ⟨.apt n s p, c⟩) fun w => arrAt tab t i w fun _ _ => F (.apt n s (p ++ [.idx i.toNat])) := by
  simp only [stepIndexAddr, intOf?]
  cases ha : aim ⟨.apt n s p, c⟩ with
  | none =>
    cases h : ty tab t with
    | none => simp [opt]
    | some T => cases T <;> simp [opt]
  | some w =>
    obtain ⟨u, v⟩ := w
    simp only [opt_some]
    cases h : ty tab t with
    | none => cases u <;> simp [opt, arrAt, h]
    | some T =>
      cases T with
      | arr k v' =>
        cases u with
        | arr k' u' =>
          simp only [arrAt, h]
          by_cases e1 : k' = k
          · by_cases e2 : u' = v'
            · subst e1 e2
              simp only [and_self, if_true, opt_ite, opt_some, true_and]
            · have : ¬ v' = u' := fun h => e2 h.symm
              simp [e2, this, opt]
          · have : ¬ k = k' := fun h => e1 h.symm
            simp [e1, this, opt]
        | _ => simp [arrAt, opt]
      | _ => cases u <;> simp [opt, arrAt, h]

theorem fla_rpt {v : u.den} {f : Nat} {F : Slot → Prop} : opt (stepFieldAddr tab t ⟨.rpt u v, c⟩ f) F = (ty tab t = some u ∧ opt (get u v [.fld f]) fun w => F (.rpt w.1 w.2)) := by
  simp only [stepFieldAddr, aim, opt_ite]
  cases get u v [.fld f] <;> simp [opt]
theorem fla_apt {p : List Way} {f : Nat} {F : Slot → Prop} : opt (stepFieldAddr tab t ⟨.apt n s p, c⟩ f) F = opt (aim ⟨.apt n s p, c⟩) fun w => ty tab t = some w.1 ∧ opt (get w.1 w.2 [.fld f]) fun _ => F (.apt n s (p ++ [.fld f])) := by
  simp only [stepFieldAddr]
  cases aim ⟨.apt n s p, c⟩ with
  | none => simp [opt]
  | some w =>
    simp only [opt_some, opt_ite]
    cases get w.1 w.2 [.fld f] <;> simp [opt]

theorem bin_val {op : BinOp} {v : u.den} {z : u'.den} : opt (stepBin tab op t d ⟨.val u v, c⟩ ⟨.val u' z, c'⟩) K = (binTy tab t u = true ∧ opt (bin op ⟨u, v⟩ ⟨u', z⟩) fun r => opt (into d (.val r.1 r.2)) K) := by
  simp only [stepBin, opt_ite]
  cases bin op ⟨u, v⟩ ⟨u', z⟩ <;> simp [opt]
theorem un_val {op : UnOp} {v : u.den} : opt (stepUn op d ⟨.val u v, c⟩) K = opt (un op ⟨u, v⟩) fun r => opt (into d (.val r.1 r.2)) K := by
  simp only [stepUn]
  cases un op ⟨u, v⟩ <;> simp [opt]

theorem conv_int {k : IntKind} {i : Int} : opt (stepConvert tab t t2 d m ⟨.val (.int k) i, c⟩) K = onInt (ty tab t) fun _ => onInt (ty tab t2) fun k' => opt (into d (.val (.int k') (k'.wrap i))) K := by
  simp only [stepConvert]
  cases ty tab t with
  | none => simp [onInt, opt]
  | some T =>
    cases T with
    | int q =>
      cases ty tab t2 with
      | none => simp [onInt, opt]
      | some T2 => cases T2 <;> simp [onInt, opt]
    | _ => simp [onInt, opt]

/-! ### Ends -/
theorem finish_iff {rvs : List ResultVar} {args : List Arg} {out : Out} : Finish tab rvs args out st = (finRes tab st rvs out.res ∧ finIos st args 0 out.ios) := propext ⟨fun h => h.out, fun h => ⟨h⟩⟩
theorem finRes_nil {r : Res} : finRes tab st [] r = (r = .unit) := rfl
theorem finRes_one {rv : ResultVar} {r : Res} : finRes tab st [rv] r = finOne tab st rv r := rfl
theorem finRes_more {rv rv2 : ResultVar} {rs : List ResultVar} {ds : List Dv} : finRes tab st (rv :: rv2 :: rs) (.tup ds) = finAll tab st (rv :: rv2 :: rs) ds := rfl
theorem finAll_nil {ds : List Dv} : finAll tab st [] ds = (ds = []) := rfl
theorem finAll_cons {rv : ResultVar} {rs : List ResultVar} {w : Dv} {ds : List Dv} : finAll tab st (rv :: rs) (w :: ds) = (finOne tab st rv (.val w) ∧ finAll tab st rs ds) := rfl
theorem finOne_tmp {k : Nat} {r : Res} : finOne tab st (.tmp k) r = opt (look st (.tmp k)) fun l => finOK l r := by
  simp only [finOne]
  cases look st (.tmp k) <;> simp [opt]
theorem finOne_cell {k : Nat} {e : TypeId} {w : Dv} : finOne tab st (.cell k e) (.val w) = opt (look st (.tmp k)) fun l => opt (aim l) fun v => v = w ∧ ty tab e = some w.1 := by
  simp only [finOne]
  cases look st (.tmp k) with
  | none => simp [opt]
  | some l => cases h : aim l <;> simp [opt, h]
theorem finOK_val {l : Lk} {w : Dv} : finOK l (.val w) = opt (frz l (some w.1)) fun r => r.1 = w := by
  simp only [finOK, opt]
  refine propext ⟨fun ⟨u, h⟩ => ⟨_, h, rfl⟩, fun ⟨r, h, e⟩ => ⟨r.2, by rw [h, ← e]⟩⟩
theorem finOK_nil {xs : List u.den} : finOK ⟨.nil, c⟩ (.own u xs) = (xs = []) := by cases c <;> rfl
theorem finOK_own {xs : List u.den} {u2 : Ty} {ys : List u2.den} : finOK ⟨.asl n s none, .own n' u2 ys⟩ (.own u xs) = (n = n' ∧ castTo (.slice u2) (.slice u) ys = some xs) := rfl
theorem finOK_cut {xs : List u.den} {u2 : Ty} {ys : List u2.den} {len : Nat} : finOK ⟨.asl n s (some (0, len)), .own n' u2 ys⟩ (.own u xs) = (n = n' ∧ castTo (.slice u2) (.slice u) (ys.take len) = some xs) := rfl
theorem finOK_obj {x : u.den} {u2 : Ty} {y : u2.den} : finOK ⟨.apt n s [], .obj n' u2 y⟩ (.obj u x) = (n = n' ∧ s < ghost ∧ castTo u2 u y = some x) := rfl
theorem finIos_nil {k : Nat} {ds : List Dv} : finIos st [] k ds = (ds = []) := rfl
theorem finIos_val {k : Nat} {w : Dv} {r : List Arg} {ds : List Dv} : finIos st (.val w :: r) k ds = finIos st r (k + 1) ds := rfl
theorem finIos_row {k : Nat} {t : Ty} {xs : List t.den} {r : List Arg} {ds : List Dv} : finIos st (.row t xs :: r) k ds = finIos st r (k + 1) ds := rfl
theorem finIos_clo {k : Nat} {f : FuncId} {l : List Dv} {r : List Arg} {ds : List Dv} : finIos st (.clo f l :: r) k ds = finIos st r (k + 1) ds := rfl
theorem finIos_ptr {k : Nat} {w : Dv} {r : List Arg} {ds : List Dv} : finIos st (.ptr w :: r) k ds = finIos st r (k + 1) ds := rfl
theorem finIos_obj {k : Nat} {w e : Dv} {r : List Arg} {ds : List Dv} : finIos st (.obj w :: r) k (e :: ds) = ((∃ n, st (ghost + k) = .obj n e.1 e.2) ∧ finIos st r (k + 1) ds) := rfl

theorem index_str {k : IntKind} {i : Int} {z : ByteArray} : opt (stepIndex tab t d ⟨.val .str z, c⟩ ⟨.val (.int k) i, c'⟩) K = ((ty tab t = some .str ∧ 0 ≤ i ∧ i < (z.size : Int)) ∧ opt (into d (.val (.int .u8) (byteAt z i.toNat))) K) := by
  simp only [stepIndex, intOf?, opt_ite]
theorem index_arr {k : IntKind} {i : Int} {l : Nat} {xs : List u.den} : opt (stepIndex tab t d ⟨.val (.arr l u) xs, c⟩ ⟨.val (.int k) i, c'⟩) K = ((ty tab t = some (.arr l u) ∧ 0 ≤ i ∧ i < (l : Int)) ∧ opt (into d (.val u (xs.getD i.toNat u.dflt))) K) := by
  simp only [stepIndex, intOf?, opt_ite]
theorem make_ok {k k' : IntKind} {i j : Int} {b : Nat} : opt (stepMake tab t (some b) m ⟨.val (.int k) i, c⟩ ⟨.val (.int k') j, c'⟩) K = onSlice (ty tab t) fun u => (0 ≤ i ∧ i ≤ j ∧ j * (u.mx : Int) ≤ 281474976710656) ∧ K [(b, .own m u (List.replicate i.toNat u.dflt))] := by
  simp only [stepMake, intOf?]
  cases ty tab t with
  | none => simp [opt, onSlice]
  | some T => cases T <;> simp only [opt_ite, opt_some, opt_none, onSlice]
theorem pick_val {b : Bool} {v w : u.den} {e1 e2 e3 : Slot} : opt (stepPick d ⟨.val .bool b, e1⟩ ⟨.val u v, e2⟩ ⟨.val u w, e3⟩) K = opt (into d (.val u (if b = true then v else w))) K := by
  simp only [stepPick, castTo_self]

/-! ### Calls -/
theorem arg_val {v : u.den} {w : Option Ty} : toArg ⟨.val u v, c⟩ w = some ⟨.val ⟨u, v⟩, none, none⟩ := rfl
theorem arg_nil : toArg ⟨.nil, c⟩ (some (.slice u)) = some ⟨.val ⟨.slice u, []⟩, none, none⟩ := rfl
theorem arg_row {xs : List u.den} {w : Option Ty} : toArg ⟨.asl n s none, .own n u xs⟩ w = some ⟨.val ⟨.slice u, xs⟩, some (s, .val (.slice u) xs), none⟩ := by simp [toArg]
theorem arg_part {xs : List u.den} {w : Option Ty} : toArg ⟨.asl n s (some (lo, len)), .own n u xs⟩ w = some ⟨.val ⟨.slice u, (xs.drop lo).take len⟩, some (s, .val (.slice u) xs), none⟩ := by simp [toArg]
theorem arg_obj {v : u.den} {w : Option Ty} : toArg ⟨.apt n s [], .obj n u v⟩ w = some ⟨.obj ⟨u, v⟩, none, some (s, n)⟩ := by simp [toArg]
theorem arg_rpt {v : u.den} {w : Option Ty} : toArg ⟨.rpt u v, c⟩ w = some ⟨.ptr ⟨u, v⟩, none, none⟩ := by cases c <;> rfl
theorem args_nil {ws : List (Option Ty)} : toArgs [] ws = some [] := rfl
theorem args_cons {x : Lk} {xs : List Lk} {w : Option Ty} {ws : List (Option Ty)} {a : Lent} {as : List Lent} (h : toArg x w = some a) (k : toArgs xs ws = some as) : toArgs (x :: xs) (w :: ws) = some (a :: as) := by
  simp [toArgs, h, k]

theorem call_fn {f : FuncId} {args : Array Operand} {ts : Array TypeId} {ls : List Lk} : opt (stepCall tab Γ { callee := .value (.func f), args := args, argTypes := ts } d m ls) K = opt (Γ f) fun con => opt (toArgsM (rowy con) ls (ts.toList.map (ty tab))) fun as => opt (callT con d m as) K := by
  simp only [stepCall]
  cases Γ f with
  | none => simp [opt]
  | some con =>
    simp only [opt_some]
    cases toArgsM (rowy con) ls (ts.toList.map (ty tab)) <;> simp [opt]

theorem callT_ok {con : Con} {as : List Lent} : opt (callT con d m as) K = ((nodup (iosOf as) && (lentsOf as).all (fun l => !(iosOf as).contains l.1) && dstFree d (iosOf as)) = true ∧ opt (con (as.map (·.arg))) fun out => out.res.isPanic = false ∧ opt (ioUps as out.ios) fun u => K ((if out.far then lentsOf as else []) ++ u ++ dstUps d (out.res.slot m))) := by
  simp only [callT, opt_ite]
  congr 1
  cases con (as.map (·.arg)) with
  | none => simp [opt]
  | some out =>
    simp only [opt_some]
    cases h : out.res.isPanic <;> simp only [h, if_true, Bool.false_eq_true, if_false, reduceCtorEq, true_and, false_and]
    · cases ioUps as out.ios <;> simp [opt]
    · simp [opt]
theorem np_unit : Res.isPanic .unit = false := rfl
theorem np_val {d : Dv} : Res.isPanic (.val d) = false := rfl
theorem np_own {t : Ty} {x : List t.den} : Res.isPanic (.own t x) = false := rfl
theorem np_obj {t : Ty} {x : t.den} : Res.isPanic (.obj t x) = false := rfl
theorem np_tup {l : List Dv} : Res.isPanic (.tup l) = false := rfl

theorem call_len {x : Operand} {l : Lk} : opt (stepCall tab Γ { callee := .builtin .len, args := #[x], argTypes := #[t] } d m [l]) K = opt (lenOf? tab t l) fun k => opt (into d (.val (.int .i64) (k : Int))) K := by
  simp only [stepCall]
  cases lenOf? tab t l <;> simp [opt]
theorem call_append {x y : Operand} {l k : Lk} : opt (stepCall tab Γ { callee := .builtin .append, args := #[x, y], argTypes := #[t, t2] } d m [l, k]) K = opt (stepAppend tab t t2 d m l k) K := by
  simp only [stepCall]

/-- What is appended to what. -/
def appK (xs : List u.den) (ys : List u.den) (F : List u.den → Prop) : Prop := (xs.length + ys.length) * u.mx ≤ 140737488355328 ∧ F (xs ++ ys)
def moreK (tab : Tab) (u : Ty) (t2 : TypeId) (y : Lk) (F : List u.den → Prop) : Prop := opt (more tab u t2 y) F
def priorK (u : Ty) (x : Lk) (F : List u.den → Option Nat → Prop) : Prop := opt (prior u x) fun p => F p.1 p.2

@[congr] theorem appK_congr {xs xs2 ys ys2 : List u.den} {F : List u.den → Prop} (h : xs = xs2) (hy : ys = ys2) : appK xs ys F = appK xs2 ys2 F := by rw [h, hy]
@[congr] theorem moreK_congr {y y2 : Lk} {F : List u.den → Prop} (h : y = y2) : moreK tab u t2 y F = moreK tab u t2 y2 F := by rw [h]
@[congr] theorem priorK_congr {x x2 : Lk} {F : List u.den → Option Nat → Prop} (h : x = x2) : priorK u x F = priorK u x2 F := by rw [h]
theorem append_ok {i : Nat} {x y : Lk} : opt (stepAppend tab t t2 (some i) m x y) K = onSlice (ty tab t) fun u => moreK tab u t2 y fun ys => priorK u x fun xs s => appK xs ys fun zs => K ((match s with | some s => [(s, .dead)] | none => []) ++ [(i, .own m u zs)]) := by
  simp only [stepAppend]
  cases ty tab t with
  | none => simp [opt, onSlice]
  | some T =>
    cases T with
    | slice u =>
      simp only [moreK, priorK, onSlice]
      cases more tab u t2 y with
      | none => simp [opt]
      | some ys =>
        cases prior u x with
        | none => simp [opt]
        | some p =>
          obtain ⟨xs, s⟩ := p
          simp only [opt_some, opt_ite, appK]
          cases s <;> rfl
    | _ => simp [opt, onSlice]
theorem more_val {ys : List u.den} {F : List u.den → Prop} : moreK tab u t2 ⟨.val (.slice u) ys, c⟩ F = onSlice (ty tab t2) (fun _ => F ys) := by
  simp only [moreK, more]
  cases ty tab t2 with
  | none => simp [opt, onSlice]
  | some T => cases T <;> simp [opt, slc, onSlice]
theorem more_nil {F : List u.den → Prop} : moreK tab u t2 ⟨.nil, c⟩ F = onSlice (ty tab t2) (fun _ => F []) := by
  simp only [moreK, more]
  cases ty tab t2 with
  | none => simp [opt, onSlice]
  | some T => cases T <;> simp [opt, slc, onSlice]
theorem more_row {ys : List u.den} {F : List u.den → Prop} : moreK tab u t2 ⟨.asl n s none, .own n u ys⟩ F = onSlice (ty tab t2) (fun _ => F ys) := by
  simp only [moreK, more]
  cases ty tab t2 with
  | none => simp [opt, onSlice]
  | some T => cases T <;> simp [opt, slc, onSlice]
theorem more_part {ys : List u.den} {F : List u.den → Prop} : moreK tab u t2 ⟨.asl n s (some (lo, len)), .own n u ys⟩ F = onSlice (ty tab t2) (fun _ => F ((ys.drop lo).take len)) := by
  simp only [moreK, more]
  cases ty tab t2 with
  | none => simp [opt, onSlice]
  | some T => cases T <;> simp [opt, slc, onSlice]
theorem more_str {z : ByteArray} {F : List Int → Prop} : moreK tab (.int .u8) t2 ⟨.val .str z, c⟩ F = (ty tab t2 = some .str ∧ F (bytesOf z)) := by
  simp only [moreK, more]
  cases ty tab t2 with
  | none => simp [opt]
  | some T => cases T <;> simp [opt, slc]
theorem prior_nil {F : List u.den → Option Nat → Prop} : priorK u ⟨.nil, c⟩ F = F [] none := by simp [priorK, prior, opt]
theorem prior_row {xs : List u.den} {F : List u.den → Option Nat → Prop} : priorK u ⟨.asl n s none, .own n u xs⟩ F = F xs (some s) := by simp [priorK, prior, opt]
theorem prior_part {xs : List u.den} {F : List u.den → Option Nat → Prop} : priorK u ⟨.asl n s (some (0, len)), .own n u xs⟩ F = F (xs.take len) (some s) := by simp [priorK, prior, opt]
end
end Go.Tm

/- More rules: conversions, rows and structs that are built, cuts, least and greatest. -/
set_option linter.unusedVariables false
set_option linter.unusedSimpArgs false
namespace Go.Tm

section
variable {tab : Tab} {Γ : Cons} {d : Option Tmp} {m : Nat} {st : St} {K : Ups → Prop} {t t2 : TypeId} {c c' : Slot} {u u' : Ty} {n s n' : Nat} {lo len : Nat}

theorem conv_row {i : Nat} {xs : List Int} : opt (stepConvert tab t t2 (some i) m ⟨.asl n s none, .own n (.int .u8) xs⟩) K =
    onConv (ty tab t) (ty tab t2) (K [(i, .val .str (strOf xs))]) ((t = t2 ∧ s ≠ i ∧ xs ≠ []) ∧ K [(s, .dead), (i, .own m (.int .u8) xs)]) := by
  simp only [stepConvert, onConv]
  split
  · rename_i h1 h2
    simp [slc, opt, into, aliasOf, h1, h2]
  · rename_i h1 h2
    simp [opt_ite, opt_some, h1, h2]
  · simp_all [opt]
theorem conv_part {i : Nat} {xs : List Int} : opt (stepConvert tab t t2 (some i) m ⟨.asl n s (some (lo, len)), .own n (.int .u8) xs⟩) K = onConv (ty tab t) (ty tab t2) (K [(i, .val .str (strOf ((xs.drop lo).take len)))]) False := by
  simp only [stepConvert, onConv]
  split
  · simp_all [slc, opt, into, aliasOf]
  · split <;> simp_all [opt]
  · split <;> simp_all [opt]
theorem conv_bytes {i : Nat} {xs : List Int} : opt (stepConvert tab t t2 (some i) m ⟨.val (.slice (.int .u8)) xs, c⟩) K = onConv (ty tab t) (ty tab t2) (K [(i, .val .str (strOf xs))]) False := by
  simp only [stepConvert, onConv]
  split
  · simp_all [slc, opt, into, aliasOf]
  · split <;> simp_all [opt]
  · split <;> simp_all [opt]
theorem conv_str {i : Nat} {z : ByteArray} : opt (stepConvert tab t t2 (some i) m ⟨.val .str z, c⟩) K = onStr (ty tab t) (ty tab t2) (K [(i, .val .str z)]) (z.size ≤ 9223372036854775807 ∧ K [(i, .own m (.int .u8) (bytesOf z))]) := by
  simp only [stepConvert, onStr]
  split
  · simp_all [opt, into, aliasOf]
  · rename_i h1 h2
    simp [opt_ite, opt_some, h1, h2]
  · simp_all [opt]

/-! ### What is built -/
def fillK (u : Ty) (v : u.den) (l : List (Nat × Dv)) (F : u.den → Prop) : Prop := opt (fillT u v l) F
@[congr] theorem fillK_congr {v v2 : u.den} {l l2 : List (Nat × Dv)} {F : u.den → Prop} (h : v = v2) (hl : l = l2) : fillK u v l F = fillK u v2 l2 F := by rw [h, hl]
theorem fillK_nil {v : u.den} {F : u.den → Prop} : fillK u v [] F = F v := by
  have : fillT u v [] = some v := by cases u <;> rfl
  simp only [fillK, this, opt_some]
theorem fillK_arr {k i : Nat} {w : Dv} {r : List (Nat × Dv)} {v : List u.den} {F : List u.den → Prop} : fillK (.arr k u) v ((i, w) :: r) F = updK (.arr k u) v [.idx i] w.1 w.2 fun v' => fillK (.arr k u) v' r F := by
  simp only [fillK, fillT, updK]
  cases upd (.arr k u) v [.idx i] w.1 w.2 <;> simp [opt]
theorem fillK_prod {a b : Ty} {i : Nat} {w : Dv} {r : List (Nat × Dv)} {v : (Ty.prod a b).den} {F : (Ty.prod a b).den → Prop} : fillK (.prod a b) v ((i, w) :: r) F = updK (.prod a b) v [.fld i] w.1 w.2 fun v' => fillK (.prod a b) v' r F := by
  simp only [fillK, fillT, updK]
  cases upd (.prod a b) v [.fld i] w.1 w.2 <;> simp [opt]

theorem frzAll_nil {ws : List (Option Ty)} {F : List Dv × Ups → Prop} : opt (frzAll [] ws) F = F ([], []) := by simp [frzAll, opt]
theorem frzAll_cons {x : Lk} {r : List Lk} {w : Option Ty} {ws : List (Option Ty)} {F : List Dv × Ups → Prop} : opt (frzAll (x :: r) (w :: ws)) F = opt (frz x w) fun a => opt (frzAll r ws) fun b => F (a.1 :: b.1, a.2 ++ b.2) := by
  simp only [frzAll, List.headD_cons, List.tail_cons]
  cases frz x w with
  | none => simp [opt]
  | some a => cases frzAll r ws <;> simp [opt]

theorem buildSlice_ok {idx : List Nat} {i : Nat} {ls : List Lk} : opt (stepBuildSlice tab t len idx (some i) m ls) K = onSlice (ty tab t) fun u => len * u.sz ≤ 16777216 ∧ opt (frzAll ls (idx.map fun _ => some u)) fun r => fillK (.arr len u) (List.replicate len u.dflt) (idx.zip r.1) fun xs => K (r.2 ++ [(i, .own m u xs)]) := by
  simp only [stepBuildSlice]
  cases ty tab t with
  | none => simp [opt, onSlice]
  | some T =>
    cases T with
    | slice u =>
      simp only [opt_ite, onSlice]
      congr 1
      cases frzAll ls (idx.map fun _ => some u) with
      | none => simp [opt]
      | some r =>
        simp only [opt_some, fillK]
        cases fillT (.arr len u) (List.replicate len u.dflt) (idx.zip r.1) <;> simp [opt]
    | _ => simp [opt, onSlice]

theorem build_arr {idx : List Nat} {i k : Nat} {ls : List Lk} (h : ty tab t = some (.arr k u)) : opt (stepBuild tab t idx (some i) ls) K = opt (frzAll ls (idx.map fun _ => some u)) fun r => fillK (.arr k u) (List.replicate k u.dflt) (idx.zip r.1) fun xs => K (r.2 ++ [(i, .val (.arr k u) xs)]) := by
  simp only [stepBuild, h, Ty.agg, if_true, fillK, Ty.dflt]
  cases frzAll ls (idx.map fun _ => some u) with
  | none => simp [opt]
  | some r =>
    simp only [opt_some]
    cases fillT (.arr k u) (List.replicate k u.dflt) (idx.zip r.1) <;> simp [opt]

def buildK (tab : Tab) (t : TypeId) (idx : List Nat) (ls : List Lk) (i : Nat) (K : Ups → Prop) : Option Ty → Prop
  | some (.arr k u) => opt (frzAll ls (idx.map fun _ => some u)) fun r => fillK (.arr k u) (List.replicate k u.dflt) (idx.zip r.1) fun xs => K (r.2 ++ [(i, .val (.arr k u) xs)])
  | some (.prod a b) => opt (frzAll ls (idx.map fun j => (fieldTys (.prod a b))[j]?)) fun r => fillK (.prod a b) (Ty.prod a b).dflt (idx.zip r.1) fun v => K (r.2 ++ [(i, .val (.prod a b) v)])
  | some .unit => opt (frzAll ls (idx.map fun j => (fieldTys .unit)[j]?)) fun r => fillK .unit () (idx.zip r.1) fun v => K (r.2 ++ [(i, .val .unit v)])
  | _ => False
@[congr] theorem buildK_congr {idx : List Nat} {ls ls2 : List Lk} {i : Nat} {o o2 : Option Ty} (h : ls = ls2) (ho : o = o2) : buildK tab t idx ls i K o = buildK tab t idx ls2 i K o2 := by rw [h, ho]
theorem build_ok {idx : List Nat} {i : Nat} {ls : List Lk} : opt (stepBuild tab t idx (some i) ls) K = buildK tab t idx ls i K (ty tab t) := by
  cases h : ty tab t with
  | none => simp [stepBuild, h, opt, buildK]
  | some T =>
    cases T with
    | arr k u => exact build_arr h
    | prod a b =>
      simp only [stepBuild, h, Ty.agg, if_true, fillK, buildK]
      cases frzAll ls (idx.map fun j => (fieldTys (.prod a b))[j]?) with
      | none => simp [opt]
      | some r =>
        simp only [opt_some]
        cases fillT (.prod a b) (Ty.prod a b).dflt (idx.zip r.1) <;> simp [opt]
    | unit =>
      simp only [stepBuild, h, Ty.agg, if_true, fillK, buildK]
      cases frzAll ls (idx.map fun j => (fieldTys .unit)[j]?) with
      | none => simp [opt]
      | some r =>
        simp only [opt_some]
        cases hz : fillT .unit Ty.unit.dflt (idx.zip r.1) with
        | none =>
          have : fillT .unit () (idx.zip r.1) = none := hz
          simp [opt, this]
        | some v =>
          show opt (some (r.2 ++ [(i, Slot.val Ty.unit v)])) K = opt (some v) fun v => K (r.2 ++ [(i, Slot.val Ty.unit v)])
          simp only [opt_some]
    | _ => simp [stepBuild, h, Ty.agg, opt, buildK]
theorem buildK_arr {idx : List Nat} {i k : Nat} {ls : List Lk} : buildK tab t idx ls i K (some (.arr k u)) = opt (frzAll ls (idx.map fun _ => some u)) fun r => fillK (.arr k u) (List.replicate k u.dflt) (idx.zip r.1) fun xs => K (r.2 ++ [(i, .val (.arr k u) xs)]) := rfl
theorem buildK_prod {a b : Ty} {idx : List Nat} {i : Nat} {ls : List Lk} : buildK tab t idx ls i K (some (.prod a b)) = opt (frzAll ls (idx.map fun j => (fieldTys (.prod a b))[j]?)) fun r => fillK (.prod a b) (Ty.prod a b).dflt (idx.zip r.1) fun v => K (r.2 ++ [(i, .val (.prod a b) v)]) := rfl
theorem buildK_unit {idx : List Nat} {i : Nat} {ls : List Lk} : buildK tab t idx ls i K (some .unit) = opt (frzAll ls (idx.map fun j => (fieldTys .unit)[j]?)) fun r => fillK .unit () (idx.zip r.1) fun v => K (r.2 ++ [(i, .val .unit v)]) := rfl

/-! ### Choices -/
theorem pick_tup {b : Bool} {l : List Dv} {v : u.den} {e1 e2 e3 : Slot} : opt (stepPick d ⟨.val .bool b, e1⟩ ⟨.tup l, e2⟩ ⟨.val u v, e3⟩) K = opt (into d (if b = true then .tup l else .val u v)) K := by
  simp only [stepPick]
theorem pick_tup2 {b : Bool} {l : List Dv} {v : u.den} {e1 e2 e3 : Slot} : opt (stepPick d ⟨.val .bool b, e1⟩ ⟨.val u v, e2⟩ ⟨.tup l, e3⟩) K = opt (into d (if b = true then .val u v else .tup l)) K := by
  simp only [stepPick]

/-! ### Cuts -/
theorem cut_none {F : Nat × Nat → Prop} {k : Int} : opt (cutB none none k) F = F (0, k.toNat) := by simp [cutB, opt]
theorem cut_lo {q : IntKind} {i k : Int} {F : Nat × Nat → Prop} : opt (cutB (some ⟨.val (.int q) i, c⟩) none k) F = ((0 ≤ i ∧ i ≤ k) ∧ F (i.toNat, k.toNat)) := by simp only [cutB, intOf?, opt_ite, opt_some]
theorem cut_hi {q : IntKind} {i k : Int} {F : Nat × Nat → Prop} : opt (cutB none (some ⟨.val (.int q) i, c⟩) k) F = ((0 ≤ i ∧ i ≤ k) ∧ F (0, i.toNat)) := by simp only [cutB, intOf?, opt_ite, opt_some]
theorem cut_both {q q' : IntKind} {i j k : Int} {F : Nat × Nat → Prop} : opt (cutB (some ⟨.val (.int q) i, c⟩) (some ⟨.val (.int q') j, c'⟩) k) F = ((0 ≤ j ∧ j ≤ k) ∧ (0 ≤ i ∧ i ≤ j) ∧ F (i.toNat, j.toNat)) := by
  simp only [cutB, intOf?, opt_ite, opt_some]
theorem slice_str {lo hi : Option Lk} {z : ByteArray} {F : Slot → Prop} : opt (stepSlice tab t ⟨.val .str z, c⟩ lo hi) F = (ty tab t = some .str ∧ opt (cutB lo hi (z.size : Int)) fun p => F (.val .str (z.extract p.1 p.2))) := by
  simp only [stepSlice, opt_ite, opt_map]
theorem slice_val {lo hi : Option Lk} {xs : List u.den} {F : Slot → Prop} : opt (stepSlice tab t ⟨.val (.slice u) xs, c⟩ lo hi) F = (ty tab t = some (.slice u) ∧ opt (cutB lo hi (xs.length : Int)) fun p => F (.val (.slice u) ((xs.drop p.1).take (p.2 - p.1)))) := by
  simp only [stepSlice, opt_ite, opt_map]
theorem slice_row0 {xs : List u.den} {F : Slot → Prop} : opt (stepSlice tab t ⟨.asl n s none, .own n' u xs⟩ none none) F = ((n = n' ∧ ty tab t = some (.slice u)) ∧ F (.asl n s none)) := by
  simp [stepSlice, opt_ite, opt_some]
theorem slice_row1 {lo : Lk} {xs : List u.den} {F : Slot → Prop} : opt (stepSlice tab t ⟨.asl n s none, .own n' u xs⟩ (some lo) none) F = ((n = n' ∧ ty tab t = some (.slice u)) ∧ opt (cutB (some lo) none (xs.length : Int)) fun p => F (.asl n s (some (p.1, p.2 - p.1)))) := by
  simp [stepSlice, opt_ite, opt_map]
theorem slice_row2 {hi : Lk} {xs : List u.den} {F : Slot → Prop} : opt (stepSlice tab t ⟨.asl n s none, .own n' u xs⟩ none (some hi)) F = ((n = n' ∧ ty tab t = some (.slice u)) ∧ opt (cutB none (some hi) (xs.length : Int)) fun p => F (.asl n s (some (p.1, p.2 - p.1)))) := by
  simp [stepSlice, opt_ite, opt_map]
theorem slice_row3 {lo hi : Lk} {xs : List u.den} {F : Slot → Prop} : opt (stepSlice tab t ⟨.asl n s none, .own n' u xs⟩ (some lo) (some hi)) F = ((n = n' ∧ ty tab t = some (.slice u)) ∧ opt (cutB (some lo) (some hi) (xs.length : Int)) fun p => F (.asl n s (some (p.1, p.2 - p.1)))) := by
  simp [stepSlice, opt_ite, opt_map]
theorem slice_part {lo' hi : Option Lk} {xs : List u.den} {F : Slot → Prop} : opt (stepSlice tab t ⟨.asl n s (some (lo, len)), .own n' u xs⟩ lo' hi) F = ((n = n' ∧ ty tab t = some (.slice u)) ∧ opt (cutB lo' hi (len : Int)) fun p => F (.asl n s (some (lo + p.1, p.2 - p.1)))) := by
  simp only [stepSlice, opt_ite, opt_map]

/-! ### Least, greatest -/
theorem min_two {x y : Operand} {k : IntKind} {a b : Int} {ts : Array TypeId} : opt (stepCall tab Γ { callee := .builtin .min, args := #[x, y], argTypes := ts } d m [⟨.val (.int k) a, c⟩, ⟨.val (.int k) b, c'⟩]) K = opt (into d (.val (.int k) (if b < a then b else a))) K := by
  simp [stepCall, minInts]
theorem max_two {x y : Operand} {k : IntKind} {a b : Int} {ts : Array TypeId} : opt (stepCall tab Γ { callee := .builtin .max, args := #[x, y], argTypes := ts } d m [⟨.val (.int k) a, c⟩, ⟨.val (.int k) b, c'⟩]) K = opt (into d (.val (.int k) (if a < b then b else a))) K := by
  simp [stepCall, minInts]
end
end Go.Tm

/- Rules for calls. -/
set_option linter.unusedVariables false
set_option linter.unusedSimpArgs false
namespace Go.Tm

section
variable {t : TypeId} {c : Slot} {u : Ty} {n s : Nat} {lo len : Nat} {w : Option Ty} {ws : List (Option Ty)}

theorem oargs_nil {F : List Lent → Prop} : opt (toArgs [] ws) F = F [] := by simp [toArgs, opt]
theorem oargs_cons {x : Lk} {r : List Lk} {F : List Lent → Prop} : opt (toArgs (x :: r) (w :: ws)) F = opt (toArg x w) fun a => opt (toArgs r ws) fun as => F (a :: as) := by
  simp only [toArgs, List.headD_cons, List.tail_cons]
  cases toArg x w with
  | none => simp [opt]
  | some a => cases toArgs r ws <;> simp [opt]
theorem oarg_val {v : u.den} {F : Lent → Prop} : opt (toArg ⟨.val u v, c⟩ w) F = F ⟨.val ⟨u, v⟩, none, none⟩ := by simp [arg_val, opt]
theorem oarg_nil {F : Lent → Prop} : opt (toArg ⟨.nil, c⟩ (some (.slice u))) F = F ⟨.val ⟨.slice u, []⟩, none, none⟩ := by simp [arg_nil, opt]
theorem oarg_row {xs : List u.den} {F : Lent → Prop} : opt (toArg ⟨.asl n s none, .own n u xs⟩ w) F = F ⟨.val ⟨.slice u, xs⟩, some (s, .val (.slice u) xs), none⟩ := by simp [arg_row, opt]
theorem oarg_part {xs : List u.den} {F : Lent → Prop} : opt (toArg ⟨.asl n s (some (lo, len)), .own n u xs⟩ w) F = F ⟨.val ⟨.slice u, (xs.drop lo).take len⟩, some (s, .val (.slice u) xs), none⟩ := by simp [arg_part, opt]
theorem oarg_obj {v : u.den} {F : Lent → Prop} : opt (toArg ⟨.apt n s [], .obj n u v⟩ w) F = F ⟨.obj ⟨u, v⟩, none, some (s, n)⟩ := by simp [arg_obj, opt]
theorem oarg_rpt {v : u.den} {F : Lent → Prop} : opt (toArg ⟨.rpt u v, c⟩ w) F = F ⟨.ptr ⟨u, v⟩, none, none⟩ := by simp [arg_rpt, opt]

theorem ios_nil : iosOf [] = [] := rfl
theorem oargsM_no {b : Bool} {ls : List Lk} {ws : List (Option Ty)} {F : List Lent → Prop} (h : b = false) : opt (toArgsM b ls ws) F = opt (toArgs ls ws) F := by simp [toArgsM, h]
theorem oargsM_yes {b : Bool} {ls : List Lk} {ws : List (Option Ty)} {F : List Lent → Prop} (h : b = true) : opt (toArgsM b ls ws) F = opt (toArgsR ls ws) F := by simp [toArgsM, h]
theorem oargsR_nil {F : List Lent → Prop} : opt (toArgsR [] ws) F = F [] := by simp [toArgsR, opt]
theorem oargsR_cons {x : Lk} {r : List Lk} {F : List Lent → Prop} : opt (toArgsR (x :: r) (w :: ws)) F = opt (toArgR x w) fun a => opt (toArgsR r ws) fun as => F (a :: as) := by
  simp only [toArgsR, List.headD_cons, List.tail_cons]
  cases toArgR x w with
  | none => simp [opt]
  | some a => cases toArgsR r ws <;> simp [opt]
theorem oarg_clo {f : FuncId} {l : List Dv} {F : Lent → Prop} : opt (toArg ⟨.clo f l, c⟩ w) F = F ⟨.clo f l, none, none⟩ := by cases c <;> simp [toArg, opt]
theorem oargR_val {v : u.den} {F : Lent → Prop} : opt (toArgR ⟨.val u v, c⟩ w) F = F ⟨.val ⟨u, v⟩, none, none⟩ := by simp [toArgR, arg_val, opt]
theorem oargR_nil {F : Lent → Prop} : opt (toArgR ⟨.nil, c⟩ (some (.slice u))) F = F ⟨.row u [], none, none⟩ := by cases c <;> simp [toArgR, opt]
theorem oargR_row {xs : List u.den} {F : Lent → Prop} : opt (toArgR ⟨.asl n s none, .own n u xs⟩ w) F = F ⟨.row u xs, none, some (s, n)⟩ := by simp [toArgR, opt]
theorem oargR_part {xs : List u.den} {F : Lent → Prop} : opt (toArgR ⟨.asl n s (some (lo, len)), .own n u xs⟩ w) F = F ⟨.val ⟨.slice u, (xs.drop lo).take len⟩, some (s, .val (.slice u) xs), none⟩ := by simp [toArgR, arg_part, opt]
theorem oargR_obj {v : u.den} {F : Lent → Prop} : opt (toArgR ⟨.apt n s [], .obj n u v⟩ w) F = F ⟨.obj ⟨u, v⟩, none, some (s, n)⟩ := by simp [toArgR, arg_obj, opt]
theorem oargR_rpt {v : u.den} {F : Lent → Prop} : opt (toArgR ⟨.rpt u v, c⟩ w) F = F ⟨.ptr ⟨u, v⟩, none, none⟩ := by
  rw [show toArgR ⟨.rpt u v, c⟩ w = toArg ⟨.rpt u v, c⟩ w by cases c <;> rfl]
  exact oarg_rpt
theorem oargR_clo {f : FuncId} {l : List Dv} {F : Lent → Prop} : opt (toArgR ⟨.clo f l, c⟩ w) F = F ⟨.clo f l, none, none⟩ := by
  rw [show toArgR ⟨.clo f l, c⟩ w = toArg ⟨.clo f l, c⟩ w by cases c <;> rfl]
  exact oarg_clo
theorem catchs_nil {F : List Dv × Ups → Prop} : opt (catchs []) F = F ([], []) := by simp [catchs, opt]
theorem catchs_cons {x : Lk} {r : List Lk} {F : List Dv × Ups → Prop} : opt (catchs (x :: r)) F = opt (catch1 x) fun p => opt (catchs r) fun q => F (p.1 :: q.1, p.2 ++ q.2) := by
  simp only [catchs]
  cases catch1 x with
  | none => simp [opt]
  | some p => cases catchs r <;> simp [opt]
theorem catch_obj {n' : Nat} {v : u.den} {F : Dv × Ups → Prop} : opt (catch1 ⟨.apt n s [], .obj n' u v⟩) F = ((n = n' ∧ s < ghost) ∧ F (⟨u, v⟩, [(s, .rpt u v)])) := by
  simp only [catch1, opt_ite, opt_some]
theorem catch_rpt {v : u.den} {F : Dv × Ups → Prop} : opt (catch1 ⟨.rpt u v, c⟩) F = F (⟨u, v⟩, []) := by cases c <;> simp [catch1, opt]
theorem ups_row {t : Ty} {xs : List t.den} {l : Option (Nat × Slot)} {as : List Lent} {ds : List Dv} {F : Ups → Prop} : opt (ioUps (⟨.row t xs, l, some (s, n)⟩ :: as) ds) F = opt (ioUps as ds) fun r => F ((s, .dead) :: r) := by
  simp [ioUps, opt_map]
theorem opnds_fn {f : FuncId} {as : Array Operand} {ts : Array TypeId} : opnds (.call { callee := .value (.func f), args := as, argTypes := ts }) = as.toList := rfl
theorem opnds_b {b : Builtin} {as : Array Operand} {ts : Array TypeId} : opnds (.call { callee := .builtin b, args := as, argTypes := ts }) = as.toList := rfl
theorem opnds_t {k : Tmp} {as : Array Operand} {ts : Array TypeId} : opnds (.call { callee := .value (.tmp k), args := as, argTypes := ts }) = .tmp k :: as.toList := rfl
theorem ios_none {a : Arg} {l : Option (Nat × Slot)} {as : List Lent} : iosOf (⟨a, l, none⟩ :: as) = iosOf as := rfl
theorem ios_some {a : Arg} {l : Option (Nat × Slot)} {as : List Lent} : iosOf (⟨a, l, some (s, n)⟩ :: as) = s :: iosOf as := rfl
theorem lents_nil : lentsOf [] = [] := rfl
theorem lents_none {a : Arg} {l : Option (Nat × Nat)} {as : List Lent} : lentsOf (⟨a, none, l⟩ :: as) = lentsOf as := rfl
theorem lents_some {a : Arg} {p : Nat × Slot} {l : Option (Nat × Nat)} {as : List Lent} : lentsOf (⟨a, some p, l⟩ :: as) = p :: lentsOf as := rfl
theorem ups_nil {F : Ups → Prop} : opt (ioUps [] []) F = F [] := by simp [ioUps, opt]
theorem ups_none {a : Arg} {l : Option (Nat × Slot)} {as : List Lent} {ds : List Dv} {F : Ups → Prop} : opt (ioUps (⟨a, l, none⟩ :: as) ds) F = opt (ioUps as ds) F := rfl
theorem ups_some {v v' : u.den} {l : Option (Nat × Slot)} {as : List Lent} {ds : List Dv} {F : Ups → Prop} : opt (ioUps (⟨.obj ⟨u, v⟩, l, some (s, n)⟩ :: as) (⟨u, v'⟩ :: ds)) F = opt (ioUps as ds) fun r => F ((s, .obj n u v') :: r) := by
  simp [ioUps, Arg.ty, opt_map]

theorem not_false' {b : Bool} (h : b = false → False) : b = true := by cases b with | true => rfl | false => exact (h rfl).elim
theorem not_true {b : Bool} (h : b = true → False) : b = false := by cases b with | true => exact (h rfl).elim | false => rfl
section
variable {x y z : Operand} {t2 : TypeId} {o : BinOp} {o2 : UnOp} {l h q : Option Operand} {k : Nat} {ps : Array (Nat × Operand)} {ps1 ps2 : Array Operand} {f : FuncId} {as : Array Operand} {ts : Array TypeId}
theorem isLen_move : isLen (.move x) = false := not_true (fun h => by cases h)
theorem isLen_assign : isLen (.assign x) = false := not_true (fun h => by cases h)
theorem isLen_pick : isLen (.pick x y z) = false := not_true (fun h => by cases h)
theorem isLen_alloc : isLen (.alloc t) = false := not_true (fun h => by cases h)
theorem isLen_box : isLen (.box t x) = false := not_true (fun h => by cases h)
theorem isLen_load : isLen (.load t x) = false := not_true (fun h => by cases h)
theorem isLen_store : isLen (.store t x y) = false := not_true (fun h => by cases h)
theorem isLen_nilCheck : isLen (.nilCheck x) = false := not_true (fun h => by cases h)
def isNilB (o : BinOp) (y : Operand) : Bool := (isNil o y).isSome
theorem isLen_binOp : isLen (.binOp o t x y t2) = isNilB o y := by
  unfold isLen kd isNilB
  cases h : isNil o y <;> simp [h]
theorem isNilB_tmp : isNilB o (.tmp k) = false := not_true (fun h => by cases o <;> cases h)
theorem isNilB_int {q : IntKind} {n : Int} : isNilB o (.const (.int q n)) = false := not_true (fun h => by cases o <;> cases h)
theorem isNilB_bool {b : Bool} : isNilB o (.const (.bool b)) = false := not_true (fun h => by cases o <;> cases h)
theorem isNilB_str {b : ByteArray} : isNilB o (.const (.string b)) = false := not_true (fun h => by cases o <;> cases h)
theorem isNilB_eq : isNilB .eql (.const (.slice none 0 0)) = true := not_false' (fun h => by cases h)
theorem isNilB_ne : isNilB .neq (.const (.slice none 0 0)) = true := not_false' (fun h => by cases h)
theorem isLen_panic : isLen (.panic x) = true := not_false' (fun h => by cases h)
theorem isLen_iface : isLen (.makeInterface t x) = false := not_true (fun h => by cases h)
theorem isLen_unOp : isLen (.unOp o2 t x) = false := not_true (fun h => by cases h)
theorem isLen_convert : isLen (.convert t t2 x) = false := not_true (fun h => by cases h)
theorem isLen_makeSlice : isLen (.makeSlice t x y) = false := not_true (fun h => by cases h)
theorem isLen_slice : isLen (.slice t x l h q) = false := not_true (fun h => by cases h)
theorem isLen_fieldAddr : isLen (.fieldAddr t x k) = false := not_true (fun h => by cases h)
theorem isLen_field : isLen (.field t x k) = false := not_true (fun h => by cases h)
theorem isLen_indexAddr : isLen (.indexAddr t x y) = false := not_true (fun h => by cases h)
theorem isLen_index : isLen (.index t x y) = false := not_true (fun h => by cases h)
theorem isLen_extract : isLen (.extract x k) = false := not_true (fun h => by cases h)
theorem isLen_build : isLen (.build t ps) = false := not_true (fun h => by cases h)
theorem isLen_buildSlice : isLen (.buildSlice t k ps) = false := not_true (fun h => by cases h)
theorem isLen_bappend : isLen (.call { callee := .builtin .append, args := as, argTypes := ts }) = false := not_true (fun h => by cases h)
theorem isLen_bmin : isLen (.call { callee := .builtin .min, args := as, argTypes := ts }) = false := not_true (fun h => by cases h)
theorem isLen_bmax : isLen (.call { callee := .builtin .max, args := as, argTypes := ts }) = false := not_true (fun h => by cases h)
theorem isLen_bcopy : isLen (.call { callee := .builtin .copy, args := as, argTypes := ts }) = false := not_true (fun h => by cases h)
theorem isLen_tmp {k : Tmp} {as : Array Operand} {ts : Array TypeId} : isLen (.call { callee := .value (.tmp k), args := as, argTypes := ts }) = false := not_true (fun h => by cases h)
theorem isLen_makeFunc {f : Fn} {as bs : Array Operand} : isLen (.makeFunc f as bs) = false := not_true (fun h => by cases h)
theorem isLen_fn : isLen (.call { callee := .value (.func f), args := as, argTypes := ts }) = true := not_false' (fun h => by cases h)
theorem isLen_len : isLen (.call { callee := .builtin .len, args := as, argTypes := ts }) = true := not_false' (fun h => by cases h)
end

end
end Go.Tm

/- Plain equations, where simp would otherwise unfold a definition. -/
set_option linter.unusedVariables false
set_option linter.unusedSimpArgs false
namespace Go.Tm

section
variable {tab : Tab} {t : TypeId} {st : St} {k k' : IntKind} {a b : Int} {x y : ByteArray} {p q : Bool} {m : Nat} {u : Ty}

theorem ghost_eq : ghost = 1000000 := rfl
theorem gSlot_none : gSlot st none = .tup [] := rfl
theorem gSlot_some {i : Nat} : gSlot st (some i) = if i < ghost then st i else .dead := rfl
theorem gtmp_eq {ops : Array Oper} {j : Nat} : gtmp ops j = (ops[j]?).bind (·.dst) := rfl
theorem ty_int : binTy tab t (.int k) = true := rfl
theorem ty_str : binTy tab t .str = true := rfl
theorem ty_bool : binTy tab t .bool = decide (ty tab t = some .bool) := rfl
theorem ty_prod {c d : Ty} : binTy tab t (.prod c d) = (decide (ty tab t = some (.prod c d)) && decide ((Ty.prod c d).deep < 10000)) := rfl

theorem bin_add : bin .add ⟨.int k, a⟩ ⟨.int k, b⟩ = some ⟨.int k, k.wrap (a + b)⟩ := by simp [bin, binInt]
theorem bin_sub : bin .sub ⟨.int k, a⟩ ⟨.int k, b⟩ = some ⟨.int k, k.wrap (a - b)⟩ := by simp [bin, binInt]
theorem bin_mul : bin .mul ⟨.int k, a⟩ ⟨.int k, b⟩ = some ⟨.int k, k.wrap (a * b)⟩ := by simp [bin, binInt]
theorem bin_quo : bin .quo ⟨.int k, a⟩ ⟨.int k, b⟩ = if b = 0 then none else some ⟨.int k, k.wrap (a.tdiv b)⟩ := by simp [bin, binInt]
theorem bin_rem : bin .rem ⟨.int k, a⟩ ⟨.int k, b⟩ = if b = 0 then none else some ⟨.int k, a.tmod b⟩ := by simp [bin, binInt]
theorem bin_and : bin .and ⟨.int k, a⟩ ⟨.int k, b⟩ = some ⟨.int k, Tm.bits .and k a b⟩ := by simp [bin, binInt]
theorem bin_or : bin .or ⟨.int k, a⟩ ⟨.int k, b⟩ = some ⟨.int k, Tm.bits .or k a b⟩ := by simp [bin, binInt]
theorem bin_xor : bin .xor ⟨.int k, a⟩ ⟨.int k, b⟩ = some ⟨.int k, Tm.bits .xor k a b⟩ := by simp [bin, binInt]
theorem bin_andNot : bin .andNot ⟨.int k, a⟩ ⟨.int k, b⟩ = some ⟨.int k, Tm.bits .andNot k a b⟩ := by simp [bin, binInt]
theorem bin_eql : bin .eql ⟨.int k, a⟩ ⟨.int k, b⟩ = some ⟨.bool, a == b⟩ := by simp [bin, binInt]
theorem bin_neq : bin .neq ⟨.int k, a⟩ ⟨.int k, b⟩ = some ⟨.bool, a != b⟩ := by simp [bin, binInt]
theorem bin_lss : bin .lss ⟨.int k, a⟩ ⟨.int k, b⟩ = some ⟨.bool, decide (a < b)⟩ := by simp [bin, binInt]
theorem bin_leq : bin .leq ⟨.int k, a⟩ ⟨.int k, b⟩ = some ⟨.bool, decide (a ≤ b)⟩ := by simp [bin, binInt]
theorem bin_gtr : bin .gtr ⟨.int k, a⟩ ⟨.int k, b⟩ = some ⟨.bool, decide (b < a)⟩ := by simp [bin, binInt]
theorem bin_geq : bin .geq ⟨.int k, a⟩ ⟨.int k, b⟩ = some ⟨.bool, decide (b ≤ a)⟩ := by simp [bin, binInt]
theorem bin_shl : bin .shl ⟨.int k, a⟩ ⟨.int k', b⟩ = if b < 0 then none else some ⟨.int k, k.wrap (a * 2 ^ min b.toNat k.bits)⟩ := by simp [bin, shiftInt]
theorem bin_shr : bin .shr ⟨.int k, a⟩ ⟨.int k', b⟩ = if b < 0 then none else some ⟨.int k, a.fdiv (2 ^ min b.toNat k.bits)⟩ := by simp [bin, shiftInt]
theorem bin_sadd : bin .add ⟨.str, x⟩ ⟨.str, y⟩ = if ((x.size + y.size : Nat) : Int) > IntKind.i64.max then none else some ⟨.str, x ++ y⟩ := rfl
theorem bin_seql : bin .eql ⟨.str, x⟩ ⟨.str, y⟩ = some ⟨.bool, x.toList == y.toList⟩ := rfl
theorem bin_sneq : bin .neq ⟨.str, x⟩ ⟨.str, y⟩ = some ⟨.bool, !(x.toList == y.toList)⟩ := rfl
theorem bin_slss : bin .lss ⟨.str, x⟩ ⟨.str, y⟩ = some ⟨.bool, Op.bytesLess x.toList y.toList⟩ := rfl
theorem bin_sleq : bin .leq ⟨.str, x⟩ ⟨.str, y⟩ = some ⟨.bool, Op.bytesLess x.toList y.toList || x.toList == y.toList⟩ := rfl
theorem bin_sgtr : bin .gtr ⟨.str, x⟩ ⟨.str, y⟩ = some ⟨.bool, !(Op.bytesLess x.toList y.toList || x.toList == y.toList)⟩ := rfl
theorem bin_sgeq : bin .geq ⟨.str, x⟩ ⟨.str, y⟩ = some ⟨.bool, !Op.bytesLess x.toList y.toList⟩ := rfl
theorem bin_beql : bin .eql ⟨.bool, p⟩ ⟨.bool, q⟩ = some ⟨.bool, p == q⟩ := rfl
theorem bin_bneq : bin .neq ⟨.bool, p⟩ ⟨.bool, q⟩ = some ⟨.bool, !(p == q)⟩ := rfl
theorem bin_peql {c d : Ty} {v w : (Ty.prod c d).den} : bin .eql ⟨.prod c d, v⟩ ⟨.prod c d, w⟩ = if flat (.prod c d) = true then some ⟨.bool, same (.prod c d) v w⟩ else none := by simp [bin, binAgg]
theorem bin_pneq {c d : Ty} {v w : (Ty.prod c d).den} : bin .neq ⟨.prod c d, v⟩ ⟨.prod c d, w⟩ = if flat (.prod c d) = true then some ⟨.bool, !same (.prod c d) v w⟩ else none := by simp [bin, binAgg]
theorem un_neg : un .neg ⟨.int k, a⟩ = some ⟨.int k, k.wrap (0 - a)⟩ := rfl
theorem un_xor : un .xor ⟨.int k, a⟩ = some ⟨.int k, Tm.bits .xor k (if k.signed then -1 else k.max) a⟩ := rfl
theorem un_not : un .not ⟨.bool, p⟩ = some ⟨.bool, !p⟩ := rfl

theorem dfree_none {l : List Nat} : dstFree none l = true := rfl
theorem dfree_nil {d : Option Tmp} : dstFree d [] = true := by cases d <;> rfl
theorem dfree_some {i : Nat} {l : List Nat} : dstFree (some i) l = !l.contains i := rfl
theorem dups_none {s : Slot} : dstUps none s = [] := rfl
theorem dups_some {i : Nat} {s : Slot} : dstUps (some i) s = [(i, s)] := rfl
theorem slot_unit : Res.slot m .unit = .dead := rfl
theorem slot_val {d : Dv} : Res.slot m (.val d) = .val d.1 d.2 := rfl
theorem slot_own {v : List u.den} : Res.slot m (.own u v) = .own m u v := rfl
theorem slot_obj {v : u.den} : Res.slot m (.obj u v) = .obj m u v := rfl
theorem slot_tup {l : List Dv} : Res.slot m (.tup l) = .tup l := rfl
theorem nodup_nil : nodup [] = true := rfl
theorem nodup_cons {i : Nat} {l : List Nat} : nodup (i :: l) = (!l.contains i && nodup l) := rfl
theorem far_out {r : Res} {l : List Dv} : Out.far ⟨r, l⟩ = (r.far || l.any (·.1.far)) := rfl
theorem far_unit : Res.far .unit = false := rfl
theorem far_val {d : Dv} : Res.far (.val d) = d.1.far := rfl
theorem far_own {v : List u.den} : Res.far (.own u v) = u.far := rfl
theorem far_obj {v : u.den} : Res.far (.obj u v) = u.far := rfl
theorem far_tup {l : List Dv} : Res.far (.tup l) = l.any (·.1.far) := rfl
theorem tfar_int : (Ty.int k).far = false := rfl
theorem tfar_bool : Ty.bool.far = false := rfl
theorem tfar_str : Ty.str.far = false := rfl
theorem tfar_unit : Ty.unit.far = false := rfl
theorem tfar_prod {c d : Ty} : (Ty.prod c d).far = (c.far || d.far) := rfl
theorem tfar_slice : (Ty.slice u).far = true := rfl
theorem tfar_arr {n : Nat} : (Ty.arr n u).far = u.far := rfl
theorem sz_int : (Ty.int k).sz = 1 := rfl
theorem sz_bool : Ty.bool.sz = 1 := rfl
theorem sz_str : Ty.str.sz = 1 := rfl
theorem sz_unit : Ty.unit.sz = 0 := rfl
theorem sz_prod {c d : Ty} : (Ty.prod c d).sz = c.sz + d.sz := rfl
theorem sz_slice : (Ty.slice u).sz = 1 := rfl
theorem sz_arr {n : Nat} : (Ty.arr n u).sz = n * u.sz := rfl
theorem dflt_int : (Ty.int k).dflt = (0 : Int) := rfl
theorem dflt_bool : Ty.bool.dflt = false := rfl
theorem dflt_str : Ty.str.dflt = ⟨#[]⟩ := rfl
theorem dflt_unit : Ty.unit.dflt = () := rfl
theorem dflt_prod {c d : Ty} : (Ty.prod c d).dflt = (c.dflt, d.dflt) := rfl
theorem dflt_slice : (Ty.slice u).dflt = [] := rfl
theorem dflt_arr {n : Nat} : (Ty.arr n u).dflt = List.replicate n u.dflt := rfl
theorem ftys_prod {c d : Ty} : fieldTys (.prod c d) = c :: fieldTys d := rfl
theorem ftys_unit : fieldTys .unit = [] := rfl
end
end Go.Tm
