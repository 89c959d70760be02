/- Calls: what a function promises (ConOK), and that a call keeps a state as callT says. -/
import Derived.Test.YtlckajldmooefaaTmStep2
set_option linter.unusedVariables false
set_option linter.unusedSimpArgs false
namespace Go.Tm

def argRep (w : World) (R : Nat → Prop) : Arg → Value → Prop
  | .val d, v => vrep w R d.1 d.2 v
  | .obj d, v => OwnP w R d.1 d.2 v
  | .ptr d, v => ∃ ad cs, v = .pointer (some ad) ∧ R ad.block ∧ ad.block < w.heap.size ∧ rep w R d.1 d.2 cs ∧ lies w ad cs

def argsRep (w : World) (R : Nat → Prop) : List Arg → List Value → Prop
  | [], vs => vs = []
  | x :: xs, vs => ∃ v r, vs = v :: r ∧ argRep w R x v ∧ argsRep w R xs r

def ioBlk : Arg → Value → Option Nat
  | .obj _, .pointer (some ad) => some ad.block
  | _, _ => none

def ioBlks : List Arg → List Value → List Nat
  | x :: xs, v :: vs => (ioBlk x v).toList ++ ioBlks xs vs
  | _, _ => []

structure Ready (w : World) (R : Nat → Prop) (args : List Arg) (vals : List Value) : Prop where
  rep : argsRep w R args vals
  nodup : (ioBlks args vals).Nodup
  apart : ∀ b ∈ ioBlks args vals, ¬ R b

def iosRep (w : World) (R : Nat → Prop) : List Arg → List Value → List Dv → Prop
  | [], _, es => es = []
  | .obj _ :: xs, vs, es => ∃ v r e es', vs = v :: r ∧ es = e :: es' ∧ OwnP w R e.1 e.2 v ∧ iosRep w R xs r es'
  | .val _ :: xs, vs, es => ∃ v r, vs = v :: r ∧ iosRep w R xs r es
  | .ptr _ :: xs, vs, es => ∃ v r, vs = v :: r ∧ iosRep w R xs r es

def resRep (w : World) (R : Nat → Prop) (r : Res) (v : Value) : Prop := SlotRep w R (fun _ => .dead) (fun _ => undef) (r.slot 0) v

/-- What may be read after a call: what could be read before it, and what is new (but for the result's own block). -/
def Rd (w : World) (R : Nat → Prop) (r : Res) (v : Value) (b : Nat) : Prop := (R b ∧ b < w.heap.size) ∨ (w.heap.size ≤ b ∧ ownBlk (r.slot 0) v ≠ some b)

structure After (w : World) (R : Nat → Prop) (args : List Arg) (vals : List Value) (out : Out) (v : Value) (w' : World) : Prop where
  kept : Kept w (fun b => b ∈ ioBlks args vals) w'
  fresh : ∀ b, ownBlk (out.res.slot 0) v = some b → w.heap.size ≤ b
  res : resRep w' (Rd w R out.res v) out.res v
  ios : iosRep w' (Rd w R out.res v) args vals out.ios

/-- How a call ends. -/
def ends (r : Res) (v : Value) : Ending :=
  match r with
  | .panic ch => .panicked ch
  | _ => .returned v

theorem ends_ret {r : Res} (h : r.isPanic = false) (v : Value) : ends r v = .returned v := by cases r <;> first | rfl | (simp [Res.isPanic] at h)

def Goes (P : Program) (f : FuncId) (vals : List Value) (w : World) (r : Res) (R : Value → World → Prop) : Prop :=
  (∃ g gs w1, (callFunc f vals.toArray).run P w = .ok (.enter g gs) w1 ∧ Calls P g gs w1 fun e w' => ∃ v, e = ends r v ∧ R v w') ∨
  (r.isPanic = false ∧ ∃ v w', (callFunc f vals.toArray).run P w = .ok (.value v) w' ∧ R v w')

def ConOK (P : Program) (f : FuncId) (con : Con) : Prop :=
  ∀ (args : List Arg) (out : Out) (vals : List Value) (w : World) (R : Nat → Prop), con args = some out → Ready w R args vals → Goes P f vals w out.res (After w R args vals out)

theorem Goes.mono {P : Program} {f : FuncId} {vals : List Value} {w : World} {r : Res} {R R' : Value → World → Prop} (h : Goes P f vals w r R) (hr : ∀ v w', R v w' → R' v w') : Goes P f vals w r R' := by
  rcases h with ⟨g, gs, w1, h1, h2⟩ | ⟨h0, v, w', h1, h2⟩
  · exact .inl ⟨g, gs, w1, h1, h2.mono fun e w' ⟨v, he, hv⟩ => ⟨v, he, hr _ _ hv⟩⟩
  · exact .inr ⟨h0, v, w', h1, hr _ _ h2⟩

/-! ### What leads nowhere stands in any world -/
theorem rep_near {w w' : World} {R R' : Nat → Prop} : ∀ (t : Ty) {x : t.den} {cs : List Value}, t.far = false → rep w R t x cs → rep w' R' t x cs
  | .int _, _, _, _, h => h
  | .bool, _, _, _, h => h
  | .str, _, _, _, h => h
  | .unit, _, _, _, h => h
  | .prod a b, _, _, hf, h => by
    simp only [Ty.far, Bool.or_eq_false_iff] at hf
    obtain ⟨c1, c2, rfl, h1, h2⟩ := h
    exact ⟨c1, c2, rfl, rep_near a hf.1 h1, rep_near b hf.2 h2⟩
  | .slice _, _, _, hf, _ => by cases hf
  | .arr n t, xs, _, hf, h => ⟨h.1, h.2.imp (fun x c _ hx => rep_near t hf hx)⟩

theorem tupRep_near {w w' : World} {R R' : Nat → Prop} : ∀ {l : List Dv} {vs : List Value}, l.any (·.1.far) = false → tupRep w R l vs → tupRep w' R' l vs
  | [], _, _, h => h
  | d :: l, _, hf, h => by
    simp only [List.any_cons, Bool.or_eq_false_iff] at hf
    obtain ⟨v, r, rfl, ⟨cs, h1, h1'⟩, h2⟩ := h
    exact ⟨v, r, rfl, ⟨cs, rep_near _ hf.1 h1, h1'⟩, tupRep_near hf.2 h2⟩

theorem resRep_turn {w : World} {R R' : Nat → Prop} {r : Res} {v : Value} (m : Nat) (st : St) (V : Nat → Value) (h : resRep w R r v) (hR : r.far = true → ∀ b, b < w.heap.size → R b → R' b) : SlotRep w R' st V (r.slot m) v := by
  have key : ∀ (t : Ty) (x : t.den) (cs : List Value), (t.far = true → r.far = true) → rep w R t x cs → rep w R' t x cs := by
    intro t x cs ht h
    cases hf : t.far with
    | false => exact rep_near t hf h
    | true => exact rep_mono (Nat.le_refl _) (hR (ht hf)) (fun _ _ _ => rfl) t h
  cases r with
  | unit => trivial
  | val d =>
    obtain ⟨cs, h, hv⟩ := h
    exact ⟨cs, key _ _ _ (fun h => h) h, hv⟩
  | own t xs =>
    obtain ⟨A, c, cs, hv, h1, h2, h3, h4⟩ := h
    exact ⟨A, c, cs, hv, h1, h2, h3.imp (fun x c _ hx => key _ _ _ (fun h => h) hx), h4⟩
  | obj t x =>
    obtain ⟨ad, cs, hv, h1, h2⟩ := h
    exact ⟨ad, cs, hv, key _ _ _ (fun h => h) h1, h2⟩
  | tup l =>
    obtain ⟨vs, hv, h1⟩ := h
    refine ⟨vs, hv, ?_⟩
    cases hf : (Res.tup l).far with
    | false => exact tupRep_near hf h1
    | true => exact tupRep_mono (Nat.le_refl _) (hR hf) (fun _ _ _ => rfl) h1
  | panic ch => trivial

theorem res_blk (r : Res) (m n : Nat) (v : Value) : ownBlk (r.slot m) v = ownBlk (r.slot n) v := by
  cases r with
  | own t xs => exact blk_own _ _ _ _ _
  | obj t x => exact blk_obj _ _ _ _ _
  | _ => rfl

/-! ### Arguments -/
structure LentOK (w : World) (R : Nat → Prop) (st : St) (V : Nat → Value) (x : Lent) (v : Value) : Prop where
  rep : argRep w R x.arg v
  lent : ∀ p, x.lent = some p → ∃ n t xs, st p.1 = .own n t xs ∧ p.2 = .val (.slice t) xs
  io : ∀ s n, x.io = some (s, n) → ∃ t y, x.arg = .obj ⟨t, y⟩ ∧ st s = .obj n t y ∧ v = V s
  none : x.io = none → ∀ d, x.arg ≠ .obj d

inductive LentsOK (w : World) (R : Nat → Prop) (st : St) (V : Nat → Value) : List Lent → List Value → Prop
  | nil : LentsOK w R st V [] []
  | cons {x : Lent} {v : Value} {xs : List Lent} {vs : List Value} (h : LentOK w R st V x v) (r : LentsOK w R st V xs vs) : LentsOK w R st V (x :: xs) (v :: vs)

theorem argRep.mono {w : World} {R R' : Nat → Prop} {x : Arg} {v : Value} (h : argRep w R x v) (hR : ∀ b, b < w.heap.size → R b → R' b) : argRep w R' x v := by
  cases x with
  | val d => exact vrep_mono (Nat.le_refl _) hR (fun _ _ _ => rfl) h
  | obj d =>
    obtain ⟨ad, cs, hv, h1, h2⟩ := h
    exact ⟨ad, cs, hv, rep_mono (Nat.le_refl _) hR (fun _ _ _ => rfl) _ h1, h2⟩
  | ptr d =>
    obtain ⟨ad, cs, hv, h1, h2, h3, h4⟩ := h
    exact ⟨ad, cs, hv, hR _ h2 h1, h2, rep_mono (Nat.le_refl _) hR (fun _ _ _ => rfl) _ h3, h4⟩

section
variable {P : Program} {tab : Tab} {Γ : Cons} {B : World} {R0 L : Nat → Prop} {st : St} {V : Nat → Value} {w : World} {N : Env} {a : Act} {o : Oper} {ups : Ups} {m : Nat} {ls : List Lk}

theorem arg_ok (hg : Good B R0 L st V w) {l : Lk} {v : Value} (h : LkOK (RO B R0 st V) st V w l v) {want : Option Ty} {x : Lent} (hx : toArg l want = some x) :
    ∃ u, u = x.lent.toList ∧ Frz st u ∧ LentOK w (RO B R0 (app u st) V) st V x v := by
  have hr := h.rep
  have ho := h.own
  have hz : ∀ d u, frz l want = some (d, u) → x = ⟨.val d, (match u with | p :: _ => some p | [] => none), none⟩ → ∃ u, u = x.lent.toList ∧ Frz st u ∧ LentOK w (RO B R0 (app u st) V) st V x v := by
    intro d u hf hxe
    obtain ⟨_, h2, h3⟩ := frz_ok hg h hf
    subst hxe
    rcases h3 with rfl | ⟨s, n, t, xs, rfl, hs⟩
    · exact ⟨[], rfl, fun p hp => by simp at hp, h2, (fun p hp => by cases hp), (fun s n hs => by cases hs), (fun _ d hd => by cases hd)⟩
    · refine ⟨[(s, .val (.slice t) xs)], rfl, fun p hp => ?_, h2, fun p hp => ?_, (fun s n hs => by cases hs), (fun _ d hd => by cases hd)⟩
      · simp only [List.mem_singleton] at hp
        subst hp
        exact .inl ⟨n, t, xs, hs, rfl⟩
      · injection hp with hp
        subst hp
        exact ⟨n, t, xs, hs, rfl⟩
  obtain ⟨s, c⟩ := l
  simp only at hr ho
  unfold toArg at hx
  simp only at hx
  split at hx
  · injection hx with hx
    exact hz _ _ rfl hx.symm
  · split at hx
    · injection hx with hx
      exact hz _ _ rfl hx.symm
    · cases hx
  · split at hx
    · rename_i hn
      subst hn
      injection hx with hx
      exact hz _ _ (by simp only [frz, if_true]; rfl) hx.symm
    · cases hx
  · split at hx
    · rename_i hn
      subst hn
      injection hx with hx
      exact hz _ _ (by simp only [frz, if_true]; rfl) hx.symm
    · cases hx
  · rename_i n k n' t y
    split at hx
    · rename_i hn
      subst hn
      injection hx with hx
      subst hx
      have hk := ho n k rfl
      obtain ⟨ad, hV, hv⟩ := hr.1 _ _ hk.symm
      have hkr := hg.rep k
      rw [← hk] at hkr
      have h00 : offs t [] = 0 := by cases t <;> rfl
      rw [h00, add_zero, ← hV] at hv
      refine ⟨[], rfl, fun p hp => by simp at hp, ?_, (fun p hp => by cases hp), ?_, (fun e => by cases e)⟩
      · rw [hv]; exact hkr
      · intro s n' hs
        injection hs with hs
        injection hs with e1 e2
        subst e1 e2
        exact ⟨t, y, rfl, hk.symm, hv⟩
    · cases hx
  · injection hx with hx
    subst hx
    exact ⟨[], rfl, fun p hp => by simp at hp, hr, (fun p hp => by cases hp), (fun s n hs => by cases hs), (fun _ d hd => by cases hd)⟩
  · cases hx

theorem LentsOK.mono {R R' : Nat → Prop} {as : List Lent} {vs : List Value} (h : LentsOK w R st V as vs) (hR : ∀ b, b < w.heap.size → R b → R' b) : LentsOK w R' st V as vs := by
  induction h with
  | nil => exact .nil
  | cons h _ ih => exact .cons ⟨h.rep.mono hR, h.lent, h.io, h.none⟩ ih

theorem args_ok (hg : Good B R0 L st V w) (hl : Link N V a) : ∀ {xs : List Operand} {ls : List Lk} {ws : List (Option Ty)} {as : List Lent}, looks st xs = some ls → toArgs ls ws = some as →
    Frz st (lentsOf as) ∧ LentsOK w (RO B R0 (app (lentsOf as) st) V) st V as (xs.map a.eval)
  | [], ls, ws, as, h1, h2 => by
    simp only [looks, Option.some.injEq] at h1
    subst h1
    simp only [toArgs, Option.some.injEq] at h2
    subst h2
    exact ⟨fun p hp => by simp [lentsOf] at hp, .nil⟩
  | x :: xs, ls, ws, as, h1, h2 => by
    simp only [looks] at h1
    split at h1
    · rename_i l ls' e1 e2
      injection h1 with h1
      subst h1
      simp only [toArgs] at h2
      split at h2
      · rename_i d ds e3 e4
        injection h2 with h2
        subst h2
        obtain ⟨f1, f2⟩ := args_ok hg hl e2 e4
        obtain ⟨u, hu, g1, g2⟩ := arg_ok hg (look_ok hg hl e1) e3
        have hL : lentsOf (d :: ds) = u ++ lentsOf ds := by
          rw [hu]
          simp only [lentsOf, List.filterMap_cons]
          cases d.lent <;> rfl
        have hall : Frz st (u ++ lentsOf ds) := by
          intro p hp
          rcases List.mem_append.1 hp with hp | hp
          · exact g1 p hp
          · exact f1 p hp
        rw [hL]
        have hlow : ∀ p ∈ u ++ lentsOf ds, owning p.2 = false := fun p hp => (hall.low p hp).1
        refine ⟨hall, .cons ⟨g2.rep.mono ?_, g2.lent, g2.io, g2.none⟩ (f2.mono ?_)⟩
        · exact fun b _ hb => RO_app (fun p hp => List.mem_append_left _ hp) hlow b hb
        · exact fun b _ hb => RO_app (fun p hp => List.mem_append_right _ hp) hlow b hb
      · cases h2
    · cases h1


theorem contains_iff {l : List Nat} {a : Nat} : l.contains a = false ↔ a ∉ l := by simp

theorem nodup_iff : ∀ {l : List Nat}, nodup l = true → l.Nodup
  | [], _ => List.nodup_nil
  | a :: l, h => by
    simp only [nodup, Bool.and_eq_true, Bool.not_eq_true', contains_iff] at h
    exact List.nodup_cons.2 ⟨h.1, nodup_iff h.2⟩

theorem ioBlks_mem (hg : Good B R0 L st V w) {R : Nat → Prop} {as : List Lent} {vs : List Value} (h : LentsOK w R st V as vs) (b : Nat) : b ∈ ioBlks (as.map (·.arg)) vs ↔ ∃ s ∈ iosOf as, ownBlk (st s) (V s) = some b := by
  induction h with
  | nil => simp [ioBlks, iosOf]
  | @cons x v xs vs h r ih =>
    simp only [List.map_cons, ioBlks, List.mem_append, ih, iosOf, List.filterMap_cons]
    cases hio : x.io with
    | none =>
      have : ioBlk x.arg v = none := by
        have := h.none hio
        cases ha : x.arg <;> first | rfl | exact absurd ha (this _)
      simp [ioOf, hio, this]
    | some p =>
      obtain ⟨s, n⟩ := p
      obtain ⟨t, y, h1, h2, h3⟩ := h.io s n hio
      have : ioBlk x.arg v = ownBlk (st s) (V s) := by
        rw [h1, h2, h3]
        cases V s <;> try rfl
        rename_i A
        cases A <;> rfl
      simp [ioOf, hio, this]

theorem ioBlks_nodup (hg : Good B R0 L st V w) {R : Nat → Prop} {as : List Lent} {vs : List Value} (h : LentsOK w R st V as vs) (hn : (iosOf as).Nodup) : (ioBlks (as.map (·.arg)) vs).Nodup := by
  induction h with
  | nil => simp [ioBlks]
  | @cons x v xs vs h r ih =>
    simp only [List.map_cons, ioBlks]
    cases hio : x.io with
    | none =>
      have : ioBlk x.arg v = none := by
        have := h.none hio
        cases ha : x.arg <;> first | rfl | exact absurd ha (this _)
      simp only [this, Option.toList_none, List.nil_append]
      simp only [iosOf, List.filterMap_cons, ioOf, hio, Option.map_none] at hn
      exact ih hn
    | some p =>
      obtain ⟨s, n⟩ := p
      obtain ⟨t, y, h1, h2, h3⟩ := h.io s n hio
      have hb : ioBlk x.arg v = ownBlk (st s) (V s) := by
        rw [h1, h2, h3]
        cases V s <;> try rfl
        rename_i A
        cases A <;> rfl
      simp only [iosOf, List.filterMap_cons, ioOf, hio, Option.map_some, List.nodup_cons] at hn
      rw [hb]
      cases ho : ownBlk (st s) (V s) with
      | none => simpa using ih hn.2
      | some b =>
        simp only [Option.toList_some, List.singleton_append, List.nodup_cons]
        refine ⟨fun hm => ?_, ih hn.2⟩
        obtain ⟨s', hs', hb'⟩ := (ioBlks_mem hg r b).1 hm
        have := hg.sep _ _ _ ho hb'
        subst this
        exact hn.1 hs'

theorem ioUps_at {w' : World} {R R' : Nat → Prop} {st0 : St} : ∀ {as : List Lent} {vs : List Value} {ds : List Dv} {u : Ups} {st : St}, LentsOK w R st0 V as vs → ioUps as ds = some u → iosRep w' R' (as.map (·.arg)) vs ds → (iosOf as).Nodup →
    (∀ k, k ∉ iosOf as → app u st k = st k) ∧ (∀ k ∈ iosOf as, ∃ n t x x', app u st k = .obj n t x ∧ OwnP w' R' t x (V k) ∧ st0 k = .obj n t x' ∧ (t.far = true → ds.any (·.1.far) = true))
  | [], vs, ds, u, st, h, hu, hr, hn => by
    cases ds with
    | nil =>
      simp only [ioUps, Option.some.injEq] at hu
      subst hu
      exact ⟨fun k _ => rfl, fun k hk => by simp [iosOf] at hk⟩
    | cons d ds => simp [ioUps] at hu
  | x :: as, vs, ds, u, st, h, hu, hr, hn => by
    cases h with
    | @cons _ v _ vs h r =>
    simp only [ioUps] at hu
    split at hu
    · rename_i hio
      have e : iosOf (x :: as) = iosOf as := by simp [iosOf, ioOf, hio]
      rw [e] at hn ⊢
      have hr' : iosRep w' R' (as.map (·.arg)) vs ds := by
        have := h.none hio
        simp only [List.map_cons] at hr
        cases ha : x.arg with
        | val d => rw [ha] at hr; obtain ⟨v', r', he, h'⟩ := hr; injection he with e1 e2; subst e2; exact h'
        | ptr d => rw [ha] at hr; obtain ⟨v', r', he, h'⟩ := hr; injection he with e1 e2; subst e2; exact h'
        | obj d => exact absurd ha (this d)
      exact ioUps_at r hu hr' hn
    · rename_i s n hio
      have e : iosOf (x :: as) = s :: iosOf as := by simp [iosOf, ioOf, hio]
      rw [e] at hn ⊢
      obtain ⟨t, y, h1, h2, h3⟩ := h.io s n hio
      split at hu
      · rename_i d ds
        split at hu
        case isFalse => cases hu
        rename_i hty
        simp only [h1, Arg.ty] at hty
        simp only [Option.map_eq_some_iff] at hu
        obtain ⟨u', hu', rfl⟩ := hu
        simp only [List.map_cons, h1] at hr
        obtain ⟨v', r', e', es', hv, he, hp, hr'⟩ := hr
        injection hv with hv1 hv2
        injection he with he1 he2
        subst hv1 hv2 he1 he2
        obtain ⟨hn1, hn2⟩ := List.nodup_cons.1 hn
        obtain ⟨g1, g2⟩ := ioUps_at (st := Tm.put st s (.obj n d.1 d.2)) r hu' hr' hn2
        refine ⟨fun k hk => ?_, fun k hk => ?_⟩
        · simp only [List.mem_cons, not_or] at hk
          rw [app_cons, g1 k hk.2, put_ne _ _ hk.1]
        · rcases List.mem_cons.1 hk with rfl | hk
          · refine ⟨n, d.1, d.2, hty ▸ y, ?_, by rw [← h3]; exact hp, by rw [h2]; clear h1 h2 hp; subst hty; rfl, fun hf => by simp [hf]⟩
            rw [app_cons, g1 _ hn1, put_same]
          · obtain ⟨n', t', x', x'', g3, g4, g5, g6⟩ := g2 k hk
            exact ⟨n', t', x', x'', by rw [app_cons]; exact g3, g4, g5, fun hf => by simp [g6 hf]⟩
      · cases hu

theorem app_other {u : Ups} {k : Nat} (h : ∀ p ∈ u, p.1 ≠ k) : ∀ {st : St}, app u st k = st k := by
  induction u with
  | nil => intro st; rfl
  | cons p u ih =>
    intro st
    rw [app_cons, ih (fun q hq => h q (by simp [hq])), put_ne _ _ (Ne.symm (h p (by simp)))]

theorem lents_rep {R : Nat → Prop} {as : List Lent} {vs : List Value} (h : LentsOK w R st V as vs) : argsRep w R (as.map (·.arg)) vs := by
  induction h with
  | nil => rfl
  | cons h r ih => exact ⟨_, _, rfl, h.rep, ih⟩

/-- A call that goes as it promised keeps the state. -/
theorem call_keeps (hg : Good B R0 L st V w) (hf : Fresh m st) {as : List Lent} {vs : List Value} {out : Out} {d : Option Tmp} (hfz : Frz st (lentsOf as)) (hls : LentsOK w (RO B R0 (app (lentsOf as) st) V) st V as vs)
    (c1 : nodup (iosOf as) = true) (c2 : ((lentsOf as).all fun l => !(iosOf as).contains l.1) = true) (c3 : dstFree d (iosOf as) = true) :
    Ready w (RO B R0 (app (lentsOf as) st) V) (as.map (·.arg)) vs ∧ ∀ u, ioUps as out.ios = some u → ∀ v w', After w (RO B R0 (app (lentsOf as) st) V) (as.map (·.arg)) vs out v w' →
      Good B R0 L (app ((if out.far = true then lentsOf as else []) ++ u ++ dstUps d (out.res.slot m)) st) (putO V d v) w' := by
      have hnd := nodup_iff c1
      have hlen : ∀ p ∈ lentsOf as, p.1 ∉ iosOf as := by
        intro p hp
        have := List.all_eq_true.1 c2 p hp
        simpa using this
      have hkeep : ∀ k, k ∈ iosOf as → app (lentsOf as) st k = st k := fun k hk => app_other (fun p hp e => hlen p hp (e ▸ hk))
      have hready : Ready w (RO B R0 (app (lentsOf as) st) V) (as.map (·.arg)) vs := by
        refine ⟨?_, ioBlks_nodup hg hls hnd, fun b hb hro => ?_⟩
        · exact lents_rep hls
        · obtain ⟨s, hs, hb'⟩ := (ioBlks_mem hg hls b).1 hb
          exact hro.2 s (by rw [hkeep s hs]; exact hb')
      refine ⟨hready, fun u hu v w' haf => ?_⟩
      -- the state in which the call begins
      generalize hst1 : app (if out.far = true then lentsOf as else []) st = st1
      have hg1 : Good B R0 L st1 V w := by
        rw [← hst1]
        split
        · exact hg.frz hfz
        · exact hg
      have hf1 : Fresh m st1 := by
        rw [← hst1]
        split
        · exact hf.app (fun p hp => (hfz.low p hp).2)
        · exact hf
      have hro1 : ∀ b, RO B R0 st1 V b → RO B R0 (app (lentsOf as) st) V b := by
        rw [← hst1]
        split
        · exact fun b h => h
        · exact fun b h => RO_app (u := []) (fun p hp => by simp at hp) (fun p hp => (hfz.low p hp).1) b h
      have hro2 : out.far = true → ∀ b, RO B R0 (app (lentsOf as) st) V b → RO B R0 st1 V b := by
        intro hfar
        rw [← hst1, if_pos hfar]
        exact fun b h => h
      have hio1 : ∀ k ∈ iosOf as, st1 k = st k := by
        intro k hk
        rw [← hst1]
        split
        · exact hkeep k hk
        · rfl
      obtain ⟨g1, g2⟩ := ioUps_at (st := st1) hls hu haf.ios hnd
      have hdk : ∀ d', d = some d' → d' ∉ iosOf as := by
        intro d' e
        subst e
        simpa [dstFree] using c3
      have happ : app ((if out.far = true then lentsOf as else []) ++ u ++ dstUps d (out.res.slot m)) st = putO (app u st1) d (out.res.slot m) := by
        rw [app_append, app_append, hst1]
        cases d <;> rfl
      show Good B R0 L (app ((if out.far = true then lentsOf as else []) ++ u ++ dstUps d (out.res.slot m)) st) (putO V d v) w'
      rw [happ]
      generalize hst2 : putO (app u st1) d (out.res.slot m) = st2
      have k1 : ∀ k, (∀ d', d = some d' → k ≠ d') → st2 k = app u st1 k ∧ putO V d v k = V k := by
        intro k hk
        rw [← hst2]
        cases d with
        | none => exact ⟨rfl, rfl⟩
        | some d => exact ⟨put_ne _ _ (hk d rfl), put_ne _ _ (hk d rfl)⟩
      have k2 : ∀ d', d = some d' → st2 d' = out.res.slot m ∧ putO V d v d' = v := by
        intro d' e
        subst e
        rw [← hst2]
        exact ⟨put_same _ _ _, put_same _ _ _⟩
      have hRd : ∀ {b}, b < w.heap.size → RO B R0 (app (lentsOf as) st) V b → ∀ k, st2 k = st2 k := fun _ _ _ => rfl
      refine hg1.change (fun k => k ∈ iosOf as ∨ d = some k) haf.kept.os haf.kept.tape haf.kept.output haf.kept.size (fun b hb hk => ?_) (fun k hk => ?_) ?_ ?_ ?_ ?_
      · refine haf.kept.block b hb (fun hm => ?_)
        obtain ⟨s, hs, hb'⟩ := (ioBlks_mem hg hls b).1 hm
        exact hk s (.inl hs) (by rw [hio1 s hs]; exact hb')
      · simp only [not_or] at hk
        obtain ⟨e1, e2⟩ := k1 k (fun d' e e' => hk.2 (e' ▸ e))
        rw [e1, e2, g1 k hk.1]
        exact ⟨rfl, rfl⟩
      · intro hR k hk
        -- what may be read after the call
        have hread : out.far = true → ∀ b, b < w'.heap.size → Rd w (RO B R0 (app (lentsOf as) st) V) out.res v b → RO B R0 st2 (putO V d v) b := by
          intro hfar b hb h
          rcases h with ⟨h1, h2⟩ | ⟨h1, h2⟩
          · exact hR b h2 (hro2 hfar b h1)
          · refine ⟨.inr (Nat.le_trans hg.kept.size h1), fun k' hk' => ?_⟩
            by_cases hd : d = some k'
            · obtain ⟨e1, e2⟩ := k2 k' hd
              rw [e1, e2, res_blk _ m 0] at hk'
              exact h2 hk'
            · obtain ⟨e1, e2⟩ := k1 k' (fun d' e e' => hd (e' ▸ e))
              rw [e1, e2] at hk'
              by_cases hi : k' ∈ iosOf as
              · obtain ⟨n, t, x, x', q1, q2, q3, _⟩ := g2 k' hi
                rw [q1] at hk'
                have hold := hg.rep k'
                rw [q3] at hold
                have := ownBlk_lt (s := .obj n t x') hold (b := b) (by rw [← hk']; exact blk_obj _ _ _ _ _)
                omega
              · rw [g1 k' hi] at hk'
                have := ownBlk_lt (hg1.rep k') hk'
                omega
        by_cases hd : d = some k
        · obtain ⟨e1, e2⟩ := k2 k hd
          rw [e1, e2]
          exact resRep_turn m _ _ haf.res (fun hfar => hread (by simp [Out.far, hfar]))
        · obtain ⟨e1, e2⟩ := k1 k (fun d' e e' => hd (e' ▸ e))
          have hi : k ∈ iosOf as := hk.resolve_right hd
          obtain ⟨n, t, x, x', q1, ⟨ad, cs, hv, q2, q2'⟩, q3, q4⟩ := g2 k hi
          rw [e1, e2, q1]
          refine ⟨ad, cs, hv, ?_, q2'⟩
          cases hf : t.far with
          | false => exact rep_near t hf q2
          | true => exact rep_mono (Nat.le_refl _) (hread (by simp [Out.far, q4 hf])) (fun _ _ _ => rfl) t q2
      · intro k b hk hb
        by_cases hd : d = some k
        · obtain ⟨e1, e2⟩ := k2 k hd
          rw [e1, e2, res_blk _ m 0] at hb
          exact .inl (haf.fresh b hb)
        · obtain ⟨e1, e2⟩ := k1 k (fun d' e e' => hd (e' ▸ e))
          have hi : k ∈ iosOf as := hk.resolve_right hd
          obtain ⟨n, t, x, x', q1, q2, q3, q4⟩ := g2 k hi
          rw [e1, e2, q1] at hb
          refine .inr ⟨k, .inl hi, ?_, ?_, fun _ h => h⟩
          · rw [hio1 k hi, q3, ← hb]
            exact blk_obj _ _ _ _ _
          · rw [e1, q1, hio1 k hi, q3]
            rfl
      · intro i j b hi hj h1 h2
        have old : ∀ k, (k ∈ iosOf as ∨ d = some k) → d ≠ some k → ownBlk (st2 k) (putO V d v k) = some b → k ∈ iosOf as ∧ ownBlk (st k) (V k) = some b ∧ b < w.heap.size := by
          intro k hk hd hb
          obtain ⟨e1, e2⟩ := k1 k (fun d' e e' => hd (e' ▸ e))
          have hi : k ∈ iosOf as := hk.resolve_right hd
          obtain ⟨n, t, x, x', q1, q2, q3, q4⟩ := g2 k hi
          rw [e1, e2, q1] at hb
          have : ownBlk (st k) (V k) = some b := by rw [q3, ← hb]; exact blk_obj _ _ _ _ _
          exact ⟨hi, this, ownBlk_lt (hg.rep k) this⟩
        have new : ∀ k, d = some k → ownBlk (st2 k) (putO V d v k) = some b → w.heap.size ≤ b := by
          intro k hd hb
          obtain ⟨e1, e2⟩ := k2 k hd
          rw [e1, e2, res_blk _ m 0] at hb
          exact haf.fresh b hb
        by_cases d1 : d = some i <;> by_cases d2 : d = some j
        · rw [d1] at d2; injection d2
        · have := new i d1 h1; have := (old j hj d2 h2).2.2; omega
        · have := new j d2 h2; have := (old i hi d1 h1).2.2; omega
        · exact hg.sep _ _ _ (old i hi d1 h1).2.1 (old j hj d2 h2).2.1
      · intro k n s hk hs ha
        by_cases hd : d = some s
        · obtain ⟨e1, e2⟩ := k2 s hd
          rw [e1]
          have hm := hf1 k n s ha
          refine ⟨fun t xs h => ?_, fun t x h => ?_⟩ <;>
          · exfalso
            cases hr : out.res <;> rw [hr] at h <;> simp only [Res.slot] at h <;> first
              | (injection h with h; exact hm h.symm)
              | (cases h; done)
        · obtain ⟨e1, e2⟩ := k1 s (fun d' e e' => hd (e' ▸ e))
          have hi : s ∈ iosOf as := hs.resolve_right hd
          obtain ⟨n', t, x, x', q1, q2, q3, q4⟩ := g2 s hi
          rw [e1, e2, q1]
          refine ⟨(fun t xs h => by cases h), fun t x h => ⟨rfl, ?_⟩⟩
          injection h with h h'
          subst h h'
          exact ⟨x', by rw [hio1 s hi]; exact q3⟩

theorem call_kept (hg : Good B R0 L st V w) (hf : Fresh m st) {as : List Lent} {vs : List Value} {con : Con} {out : Out} {d : Option Tmp} (hfz : Frz st (lentsOf as)) (hls : LentsOK w (RO B R0 (app (lentsOf as) st) V) st V as vs)
    (hc : con (as.map (·.arg)) = some out) (ht : callT con d m as = some ups) :
    out.res.isPanic = false ∧ Ready w (RO B R0 (app (lentsOf as) st) V) (as.map (·.arg)) vs ∧ ∀ v w', After w (RO B R0 (app (lentsOf as) st) V) (as.map (·.arg)) vs out v w' → Good B R0 L (app ups st) (putO V d v) w' := by
  unfold callT at ht
  split at ht
  · rename_i hcond
    simp only [Bool.and_eq_true] at hcond
    obtain ⟨⟨c1, c2⟩, c3⟩ := hcond
    simp only [hc] at ht
    split at ht
    · cases ht
    · rename_i hnp
      split at ht
      · rename_i u hu
        injection ht with ht
        subst ht
        obtain ⟨k1, k2⟩ := call_keeps (out := out) (d := d) hg hf hfz hls c1 c2 c3
        exact ⟨by simpa using hnp, k1, k2 u hu⟩
      · cases ht
  · cases ht

theorem callP_kept (hg : Good B R0 L st V w) (hf : Fresh m st) {as : List Lent} {vs : List Value} {con : Con} {out : Out} {ch : List PanicEntry} (hfz : Frz st (lentsOf as)) (hls : LentsOK w (RO B R0 (app (lentsOf as) st) V) st V as vs)
    (hc : con (as.map (·.arg)) = some out) (ht : callP con as = some (ch, ups)) :
    out.res = .panic ch ∧ Ready w (RO B R0 (app (lentsOf as) st) V) (as.map (·.arg)) vs ∧ ∀ v w', After w (RO B R0 (app (lentsOf as) st) V) (as.map (·.arg)) vs out v w' → Good B R0 L (app ups st) V w' := by
  unfold callP at ht
  split at ht
  · rename_i hcond
    simp only [Bool.and_eq_true] at hcond
    obtain ⟨c1, c2⟩ := hcond
    simp only [hc] at ht
    split at ht
    · rename_i ch' hr
      split at ht
      · rename_i u hu
        injection ht with ht
        injection ht with ht1 ht2
        subst ht1 ht2
        obtain ⟨k1, k2⟩ := call_keeps (out := out) (d := none) (m := m) hg hf hfz hls c1 c2 rfl
        refine ⟨hr, k1, fun v w' h => ?_⟩
        have := k2 u hu v w' h
        simpa [dstUps, putO] using this
      · cases ht
    · cases ht
  · cases ht

end
end Go.Tm
