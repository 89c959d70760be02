/- From a body's Ex to what a call of it promises. -/
import Derived.Test.YtlckajldmooefaaTmOrder
set_option linter.unusedVariables false
set_option linter.unusedSimpArgs false
namespace Go.Tm

section
variable {P : Program} {tab : Tab} {Γ : Cons} {B : World} {R0 L : Nat → Prop} {st : St} {V : Nat → Value} {w : World} {N : Env} {a : Act} {o : Oper} {ups : Ups} {m : Nat} {ls : List Lk} {ops : Array Oper}

theorem Good.drew (hg : Good B R0 L st V w) (n : Nat) : Good B R0 L st V { w with drawn := n } :=
  hg.change (fun _ => False) rfl rfl rfl (Nat.le_refl _) (fun _ _ _ => rfl) (fun _ _ => ⟨rfl, rfl⟩) (fun _ _ h => h.elim) (fun _ _ h => h.elim) (fun _ _ _ h => h.elim) (fun _ _ _ _ h => h.elim)

theorem least {p : Nat → Prop} (h : ∃ n, p n) : ∃ n, p n ∧ ∀ k, p k → n ≤ k := by
  obtain ⟨n, hn⟩ := h
  induction n using Nat.strongRecOn with
  | _ n ih =>
    by_cases e : ∃ k, k < n ∧ p k
    · obtain ⟨k, hk, hp⟩ := e
      exact ih k hk hp
    · exact ⟨n, hn, fun k hk => Nat.le_of_not_lt (fun hlt => e ⟨k, hlt, hk⟩)⟩

theorem ex_sound (ok : TabOK P tab) (hΓ : ConsOK P Γ) (hm : P.follows .mixedOrders = true) : ∀ (c : Code) (Q : Exit → St → Prop) (st : St) (a : Act) (w : World), fits N.n c = true → Ex tab Γ c Q st → Sim B R0 L N st a w → c.wp P (Post B R0 L N Q) a w := by
  intro c
  induction c with
  | skip => intro Q st a w _ h hs; exact wp_skip ⟨st, h, hs⟩
  | region id ops draw =>
    intro Q st a w hfit h hs
    obtain ⟨V, b, hg, hl, hb⟩ := (hs.sealR tab ops).out
    have hN : ∀ o ∈ ops.toList, ∀ k, o.dst = some k → k < N.n := by
      intro o ho k hk
      simp only [fits, Array.all_eq_true_iff_forall_mem] at hfit
      have := hfit o (by simpa using ho)
      simpa [hk] using this
    cases draw with
    | false =>
      simp only [Ex] at h
      refine wp_region ?_
      rw [List.range_eq_range']
      refine text_ops (L := L) (R0 := R0) (B := B) ok hΓ (l := ops.toList) (fun j => by simp) hN (h b) hg hl hb fun e st' V' a' w' h2 g l hb' => ?_
      obtain ⟨b', hb'⟩ := hb'
      exact ⟨st', h2, V', b', g, l, hb'⟩
    | true =>
      simp only [Ex] at h
      obtain ⟨us, st', h1, hi, h2⟩ := exOps_run (h b)
      refine wp_region_any hm ?_
      have hoff : isOn (Array.replicate ops.size false) = fun _ => false := by
        funext j
        simp only [isOn, Array.getD_eq_getD_getElem?, Array.getElem?_replicate]
        split <;> rfl
      refine any_ops (L := L) (R0 := R0) (B := B) ok hΓ hN h1 (by simpa using hi) (fun V' a' w' g l hb' => ?_) ops.size _ V a _ (by simp) ?_ ?_ ?_ ?_ hl
      · obtain ⟨b', hb'⟩ := hb'
        exact ⟨st', h2, V', b', g, l, hb'⟩
      · exact Nat.le_trans List.countP_le_length (by simp)
      · intro j o hj
        rw [hoff] at hj
        cases hj
      · rw [hoff, sub_none]
        exact fun k n hn => .inl (hb k n hn)
      · rw [hoff, sub_none]
        exact hg.drew _
  | seq x y ihx ihy =>
    intro Q st a w hfit h hs
    simp only [fits, Bool.and_eq_true] at hfit
    simp only [Ex] at h
    refine wp_seq (wp_mono (ihx _ st a w hfit.1 h hs) ?_)
    rintro e a' w' ⟨st', hq, hs'⟩
    cases e with
    | normal => exact ihy _ st' a' w' hfit.2 hq hs'
    | _ => exact ⟨st', hq, hs'⟩
  | cond c x y ihx ihy =>
    intro Q st a w hfit h hs
    simp only [fits, Bool.and_eq_true] at hfit
    simp only [Ex] at h
    split at h
    · rename_i b hb
      obtain ⟨V, _, hg, hl, _⟩ := hs.out
      exact wp_cond_split (cond_ok hb hg hl) (fun e => ihx _ st a w hfit.1 (h.1 e) hs) (fun e => ihy _ st a w hfit.2 (h.2 e) hs)
    · exact h.elim
  | block id x ih =>
    intro Q st a w hfit h hs
    simp only [Ex] at h
    refine wp_block (wp_mono (ih _ st a w hfit h hs) ?_)
    rintro e a' w' ⟨st', hq, hs'⟩
    cases e with
    | exit j =>
      simp only at hq
      simp only [Exit.inBlock]
      split at hq
      · rename_i hj; rw [if_pos hj]; exact ⟨st', hq, hs'⟩
      · rename_i hj; rw [if_neg hj]; exact ⟨st', hq, hs'⟩
    | _ => exact ⟨st', hq, hs'⟩
  | loop x ih =>
    intro Q st a w hfit h hs
    simp only [Ex] at h
    obtain ⟨F, G, h⟩ := h
    obtain ⟨V0, b0, hg0, hl0, hb0⟩ := (hs.seals (F := F)).out
    obtain ⟨I, ⟨n, hI⟩, hround⟩ := h b0
    classical
    refine wp_loop (fun a w => ∃ n st, I n st ∧ Sim B R0 L N st a w) (fun a w => if h : ∃ n, ∃ st, I n st ∧ Sim B R0 L N st a w then Classical.choose (least h) else 0) ⟨n, _, hI, Sim.opens hl0 hg0 hb0⟩ ?_
    intro a w hex
    obtain ⟨⟨st1, hI1, hs1⟩, hmin⟩ := Classical.choose_spec (least (p := fun n => ∃ st, I n st ∧ Sim B R0 L N st a w) hex)
    refine wp_mono (ih _ st1 a w hfit (hround _ st1 hI1) hs1) ?_
    rintro e a' w' ⟨st', hq, hs'⟩
    cases e with
    | normal =>
      obtain ⟨k, hk, hIk⟩ := hq
      refine ⟨⟨k, st', hIk, hs'⟩, ?_⟩
      have hex' : ∃ n, ∃ st, I n st ∧ Sim B R0 L N st a' w' := ⟨k, st', hIk, hs'⟩
      rw [dif_pos hex, dif_pos hex']
      exact Nat.lt_of_le_of_lt ((Classical.choose_spec (least (p := fun n => ∃ st, I n st ∧ Sim B R0 L N st a' w') hex')).2 k ⟨st', hIk, hs'⟩) hk
    | _ => exact ⟨st', hq, hs'⟩
  | exit id => intro Q st a w _ h hs; exact wp_exit ⟨st, h, hs⟩
  | label l => intro Q st a w _ h hs; exact wp_label ⟨st, h, hs⟩
  | ret => intro Q st a w _ h hs; exact wp_ret ⟨st, h, hs⟩
  | rangeFunc => intro Q st a w _ h hs; exact h.elim
  | scope => intro Q st a w _ h hs; exact h.elim
  | goto => intro Q st a w _ h hs; exact h.elim
  | refuse => intro Q st a w _ h hs; exact h.elim


/-! ### Where a call begins -/
def ini (args : List Arg) (k : Nat) : Slot :=
  if k < ghost then
    match args[k]? with
    | some (.val d) => .val d.1 d.2
    | some (.obj d) => .apt k (ghost + k) []
    | some (.ptr d) => .rpt d.1 d.2
    | none => .tup []
  else
    match args[k - ghost]? with
    | some (.obj d) => .obj (k - ghost) d.1 d.2
    | _ => .dead

def finOK (l : Lk) : Res → Prop
  | .unit => False
  | .val d => ∃ u, frz l (some d.1) = some (d, u)
  | .own t xs => match l.s, l.c with
    | .nil, _ => xs = []
    | .asl n s none, .own n' t' ys => n = n' ∧ castTo (.slice t') (.slice t) ys = some xs
    | _, _ => False
  | .obj t x => match l.s, l.c with
    | .apt n s [], .obj n' t' y => n = n' ∧ s < ghost ∧ castTo t' t y = some x
    | _, _ => False
  | .tup _ => False
  | .panic _ => False

def finOne (tab : Tab) (st : St) (rv : ResultVar) (r : Res) : Prop :=
  match rv with
  | .tmp t => match look st (.tmp t) with
    | some l => finOK l r
    | none => False
  | .cell a e => match look st (.tmp a), r with
    | some l, .val d => aim l = some d ∧ ty tab e = some d.1
    | _, _ => False

def finAll (tab : Tab) (st : St) : List ResultVar → List Dv → Prop
  | [], ds => ds = []
  | rv :: r, ds => match ds with
    | d :: ds => finOne tab st rv (.val d) ∧ finAll tab st r ds
    | [] => False

def finRes (tab : Tab) (st : St) (rvs : List ResultVar) (r : Res) : Prop :=
  match rvs with
  | [] => r = .unit
  | [rv] => finOne tab st rv r
  | rvs => match r with
    | .tup ds => finAll tab st rvs ds
    | _ => False

def finIos (st : St) : List Arg → Nat → List Dv → Prop
  | [], _, ds => ds = []
  | .obj _ :: r, k, ds => match ds with
    | e :: es => (∃ n, st (ghost + k) = .obj n e.1 e.2) ∧ finIos st r (k + 1) es
    | [] => False
  | .val _ :: r, k, ds => finIos st r (k + 1) ds
  | .ptr _ :: r, k, ds => finIos st r (k + 1) ds

structure Finish (tab : Tab) (rvs : List ResultVar) (args : List Arg) (out : Out) (st : St) : Prop where mk ::
  out : finRes tab st rvs out.res ∧ finIos st args 0 out.ios

structure Panics (args : List Arg) (out : Out) (ch : List PanicEntry) (st : St) : Prop where mk ::
  out : out.res = .panic ch ∧ finIos st args 0 out.ios

def EndsF (tab : Tab) (rvs : List ResultVar) (args : List Arg) (out : Out) (e : Exit) (st : St) : Prop :=
  match e with
  | .normal => Finish tab rvs args out st
  | .ret => Finish tab rvs args out st
  | .panic ch => Panics args out ch st
  | _ => False

theorem finRes_np {tab : Tab} {st : St} {rvs : List ResultVar} {r : Res} (h : finRes tab st rvs r) : r.isPanic = false := by
  unfold finRes at h
  split at h
  · rw [h]; rfl
  · unfold finOne at h
    cases r with
    | panic ch =>
      exfalso
      split at h
      · split at h
        · exact h
        · exact h
      · split at h
        · rename_i h1 h2; cases h2
        · exact h
    | _ => rfl
  · split at h
    · rfl
    · exact h.elim

theorem args_len {w : World} {R : Nat → Prop} : ∀ {args : List Arg} {vals : List Value}, argsRep w R args vals → args.length = vals.length
  | [], _, h => by simp only [argsRep] at h; simp [h]
  | x :: xs, _, ⟨v, r, h, _, h2⟩ => by subst h; simp [args_len h2]

theorem args_at {w : World} {R : Nat → Prop} : ∀ {args : List Arg} {vals : List Value} {k : Nat} {x : Arg}, argsRep w R args vals → args[k]? = some x → ∃ v, vals[k]? = some v ∧ argRep w R x v
  | [], _, k, x, h, hk => by simp at hk
  | y :: xs, _, k, x, ⟨v, r, h, h1, h2⟩, hk => by
    subst h
    cases k with
    | zero => simp only [List.getElem?_cons_zero, Option.some.injEq] at hk; subst hk; exact ⟨v, rfl, h1⟩
    | succ k => simpa using args_at h2 (by simpa using hk)

theorem io_mem : ∀ {args : List Arg} {vals : List Value} {k b : Nat} {x : Arg} {v : Value}, args[k]? = some x → vals[k]? = some v → ioBlk x v = some b → b ∈ ioBlks args vals
  | [], _, k, b, x, v, h, _, _ => by simp at h
  | _ :: _, [], k, b, x, v, _, h, _ => by simp at h
  | y :: xs, u :: us, k, b, x, v, h1, h2, h3 => by
    simp only [ioBlks, List.mem_append]
    cases k with
    | zero =>
      simp only [List.getElem?_cons_zero, Option.some.injEq] at h1 h2
      subst h1 h2
      exact .inl (by simp [h3])
    | succ k => exact .inr (io_mem (by simpa using h1) (by simpa using h2) h3)

theorem io_sep : ∀ {args : List Arg} {vals : List Value} {i j b : Nat} {x y : Arg} {u v : Value}, (ioBlks args vals).Nodup → args[i]? = some x → vals[i]? = some u → ioBlk x u = some b → args[j]? = some y → vals[j]? = some v → ioBlk y v = some b → i = j
  | [], _, i, j, b, x, y, u, v, _, h, _, _, _, _, _ => by simp at h
  | _ :: _, [], i, j, b, x, y, u, v, _, _, h, _, _, _, _ => by simp at h
  | z :: xs, t :: us, i, j, b, x, y, u, v, hn, h1, h2, h3, h4, h5, h6 => by
    simp only [ioBlks] at hn
    obtain ⟨_, n2, n3⟩ := List.nodup_append.1 hn
    cases i with
    | zero =>
      simp only [List.getElem?_cons_zero, Option.some.injEq] at h1 h2
      subst h1 h2
      cases j with
      | zero => rfl
      | succ j =>
        exact absurd rfl (n3 b (by simp [h3]) b (io_mem (by simpa using h4) (by simpa using h5) h6))
    | succ i =>
      cases j with
      | zero =>
        simp only [List.getElem?_cons_zero, Option.some.injEq] at h4 h5
        subst h4 h5
        exact absurd rfl (n3 b (by simp [h6]) b (io_mem (by simpa using h1) (by simpa using h2) h3))
      | succ j =>
        have := io_sep n2 (by simpa using h1) (by simpa using h2) h3 (by simpa using h4) (by simpa using h5) h6
        omega

def begV (vals : List Value) (k : Nat) : Value := if k < ghost then vals.getD k undef else vals.getD (k - ghost) undef

theorem begin_good {R : Nat → Prop} {args : List Arg} {vals : List Value} (hr : Ready w R args vals) : Good w R (fun b => b ∈ ioBlks args vals) (ini args) (begV vals) w := by
  have hown : ∀ k b, ownBlk (ini args k) (begV vals k) = some b → ghost ≤ k ∧ ∃ d v, args[k - ghost]? = some (.obj d) ∧ vals[k - ghost]? = some v ∧ ioBlk (.obj d) v = some b ∧ isObj (ini args k) = true := by
    intro k b hb
    unfold ini begV at hb
    split at hb
    · exfalso
      split at hb <;> simp [ownBlk] at hb
    · rename_i hk
      split at hb
      · rename_i d hd
        obtain ⟨v, hv, hv'⟩ := args_at hr.rep hd
        clear hv'
        refine ⟨by omega, d, v, hd, hv, ?_, ?_⟩
        · rw [List.getD_eq_getElem?_getD, hv] at hb
          rw [← hb]
          cases v <;> try rfl
          rename_i A
          cases A <;> rfl
        · unfold ini
          rw [if_neg hk, hd]
          rfl
      · simp [ownBlk] at hb
  have hmem : ∀ k b, ownBlk (ini args k) (begV vals k) = some b → b ∈ ioBlks args vals := by
    intro k b hb
    obtain ⟨_, d, v, h1, h2, h3, _⟩ := hown k b hb
    exact io_mem h1 h2 h3
  have hRO : ∀ b, R b → RO w R (ini args) (begV vals) b := fun b hb => ⟨.inl hb, fun k hk => hr.apart b (hmem k b hk) hb⟩
  refine ⟨⟨rfl, rfl, rfl, Nat.le_refl _, fun _ _ _ => rfl⟩, fun k => ?_, fun i j b hi hj => ?_, fun k b hb => ?_⟩
  · unfold ini
    split
    · rename_i hk
      have hV : begV vals k = vals.getD k undef := by unfold begV; rw [if_pos hk]
      split
      · rename_i d hd
        obtain ⟨v, hv, h⟩ := args_at hr.rep hd
        rw [hV, List.getD_eq_getElem?_getD, hv]
        exact vrep_mono (Nat.le_refl _) (fun b _ => hRO b) (fun _ _ _ => rfl) h
      · rename_i d hd
        obtain ⟨v, hv, h⟩ := args_at hr.rep hd
        have hini : ini args (ghost + k) = .obj k d.1 d.2 := by
          unfold ini
          rw [if_neg (by omega), show ghost + k - ghost = k by omega, hd]
        have hVg : begV vals (ghost + k) = v := by
          unfold begV
          rw [if_neg (by omega), show ghost + k - ghost = k by omega, List.getD_eq_getElem?_getD, hv]
          rfl
        refine ⟨fun t x h' => ?_, fun t xs h' => ?_⟩
        · obtain ⟨ad, cs, hva, _⟩ := h
          refine ⟨ad, by rw [hVg, hva], ?_⟩
          have h00 : offs t [] = 0 := by cases t <;> rfl
          rw [h00, add_zero, hV, List.getD_eq_getElem?_getD, hv]
          exact hva
        · have h' : ini args (ghost + k) = .own k t xs := h'
          rw [hini] at h'
          cases h'
      · rename_i d hd
        obtain ⟨v, hv, h⟩ := args_at hr.rep hd
        rw [hV, List.getD_eq_getElem?_getD, hv]
        obtain ⟨ad, cs, h1, h2, h3, h4, h5⟩ := h
        exact ⟨ad, cs, h1, hRO _ h2, h3, rep_mono (Nat.le_refl _) (fun b _ => hRO b) (fun _ _ _ => rfl) _ h4, h5⟩
      · rename_i hd
        have : vals[k]? = none := by
          have hlen := args_len hr.rep
          rw [List.getElem?_eq_none_iff] at hd ⊢
          omega
        rw [hV, List.getD_eq_getElem?_getD, this]
        exact undef_tup
    · rename_i hk
      split
      · rename_i d hd
        obtain ⟨v, hv, h⟩ := args_at hr.rep hd
        have hV : begV vals k = v := by
          unfold begV
          rw [if_neg hk, List.getD_eq_getElem?_getD, hv]
          rfl
        rw [hV]
        obtain ⟨ad, cs, h1, h2, h3⟩ := h
        exact ⟨ad, cs, h1, rep_mono (Nat.le_refl _) (fun b _ => hRO b) (fun _ _ _ => rfl) _ h2, h3⟩
      · exact trivial
  · obtain ⟨p1, d1, v1, a1, a2, a3, _⟩ := hown i b hi
    obtain ⟨p2, d2, v2, b1, b2, b3, _⟩ := hown j b hj
    have := io_sep hr.nodup a1 a2 a3 b1 b2 b3
    omega
  · obtain ⟨p1, d1, v1, a1, a2, a3, a4⟩ := hown k b hb
    exact .inl ⟨io_mem a1 a2 a3, a4, p1⟩


/-! ### Where it ends -/
theorem own_val {R : Nat → Prop} {t : Ty} {xs : List t.den} {v : Value} (h : OwnS w R t xs v) {R' : Nat → Prop} (hR : ∀ b, R b → R' b) (hb : ∀ n b, ownBlk (.own n t xs) v = some b → R' b) : vrep w R' (.slice t) xs v := by
  obtain ⟨A, c, cs, hv, h1, h2, h3, h4⟩ := h
  refine ⟨[v], ⟨A, c, by rw [hv], h1, h2, ?_⟩, by simp [mkv, Ty.agg]⟩
  rcases h4 with ⟨rfl, rfl⟩ | ⟨ad, rfl, hm⟩
  · exact .inl (List.eq_nil_of_length_eq_zero (by omega))
  · exact .inr ⟨ad, cs, rfl, hb 0 _ (by rw [hv]; rfl), hm.block_lt, h3.imp (fun x c _ hx => rep_mono (Nat.le_refl _) (fun b _ => hR b) (fun _ _ _ => rfl) t hx), hm.lies⟩

theorem to_rd {r : Res} {v : Value} {b : Nat} (h : RO B R0 st V b) (hr : ∀ b, ownBlk (r.slot 0) v = some b → ∃ k, ownBlk (st k) (V k) = some b) : Rd B R0 r v b := by
  rcases Nat.lt_or_ge b B.heap.size with hlt | hge
  · exact .inl ⟨h.1.resolve_right (by omega), hlt⟩
  · refine .inr ⟨hge, fun e => ?_⟩
    obtain ⟨k, hk⟩ := hr b e
    exact h.2 k hk

def rdRes (tmps : Array Value) : ResultVar → Sem Value
  | .tmp t => pure (tmps.getD t undef)
  | .cell x e => do loadVar e (← asAddr (tmps.getD x undef))

/-- What a result says of a value: like resRep, with what may be read told by what the state owns. -/
theorem fin_one (hg : Good B R0 L st V w) (hl : Link N V a) (ok : TabOK P tab) (hL : ∀ b, L b → ∃ k, ghost ≤ k ∧ ownBlk (st k) (V k) = some b)
    {rv : ResultVar} {r : Res} (h : finOne tab st rv r) : ∃ v, (rdRes a.tmps rv).run P w = .ok v w ∧ resRep w (Rd B R0 r v) r v ∧ ∀ b, ownBlk (r.slot 0) v = some b → B.heap.size ≤ b ∧ ∃ k, ownBlk (st k) (V k) = some b := by
  cases rv with
  | tmp t =>
    simp only [finOne] at h
    split at h
    · rename_i l hlk
      have hk := look_ok hg hl hlk
      have hev : a.eval (.tmp t) = a.tmps.getD t undef := rfl
      rw [hev] at hk
      refine ⟨a.tmps.getD t undef, by simp [rdRes], ?_⟩
      generalize a.tmps.getD t undef = v at hk
      cases r with
      | unit => exact h.elim
      | tup l => exact h.elim
      | panic ch => exact h.elim
      | val d =>
        obtain ⟨u, hu⟩ := h
        obtain ⟨hg', h2, _⟩ := frz_ok hg hk hu
        refine ⟨?_, fun b hb => by cases hb⟩
        obtain ⟨cs, h3, h4⟩ := h2
        exact ⟨cs, rep_mono (Nat.le_refl _) (fun b _ h => to_rd h (fun b hb => by cases hb)) (fun _ _ _ => rfl) _ h3, h4⟩
      | own t' xs =>
        obtain ⟨s, c⟩ := l
        have hr := hk.rep
        have ho := hk.own
        simp only [finOK] at h
        simp only at hr ho
        split at h
        · rename_i e1 e2
          subst h
          simp only [SlotRep] at hr
          subst hr
          exact ⟨⟨none, 0, [], rfl, Nat.le_refl _, Nat.zero_le _, rfl, .inl ⟨rfl, rfl⟩⟩, fun b hb => by simp [Res.slot, ownBlk] at hb⟩
        · rename_i n k n' t2 ys
          obtain ⟨rfl, hc⟩ := h
          obtain ⟨e, he⟩ := cast_cast hc
          injection e with e
          subst e
          subst he
          have hks := ho n k rfl
          have hv := hr _ _ hks.symm
          subst hv
          have hrk := hg.rep k
          rw [← hks] at hrk
          have hb0 : ∀ b, ownBlk ((Res.own t2 xs).slot 0) (V k) = some b → ownBlk (st k) (V k) = some b := by
            intro b hb
            rw [← hks, ← hb]
            exact blk_own _ _ _ _ _
          obtain ⟨A, c, cs, hv, h1, h2, h3, h4⟩ := hrk
          refine ⟨⟨A, c, cs, hv, h1, h2, h3.imp (fun x c _ hx => rep_mono (Nat.le_refl _) (fun b _ h => to_rd h (fun b hb => ⟨k, hb0 b hb⟩)) (fun _ _ _ => rfl) _ hx), h4⟩, fun b hb => ⟨?_, k, hb0 b hb⟩⟩
          rcases hg.mine k b (hb0 b hb) with ⟨_, h, _⟩ | h
          · rw [← hks] at h; cases h
          · exact h
        · exact h.elim
      | obj t' x =>
        obtain ⟨s, c⟩ := l
        have hr := hk.rep
        have ho := hk.own
        simp only [finOK] at h
        simp only at hr ho
        split at h
        · rename_i n k n' t2 ys
          obtain ⟨rfl, hlt, hc⟩ := h
          obtain ⟨e, he⟩ := cast_cast hc
          subst e
          subst he
          have hks := ho n k rfl
          obtain ⟨ad, hV, hv⟩ := hr.1 _ _ hks.symm
          have h00 : offs t2 [] = 0 := by cases t2 <;> rfl
          rw [h00, add_zero, ← hV] at hv
          subst hv
          have hrk := hg.rep k
          rw [← hks] at hrk
          have hb0 : ∀ b, ownBlk ((Res.obj t2 x).slot 0) (V k) = some b → ownBlk (st k) (V k) = some b := by
            intro b hb
            rw [← hks, ← hb]
            exact blk_obj _ _ _ _ _
          obtain ⟨ad, cs, hv, h1, h2⟩ := hrk
          refine ⟨⟨ad, cs, hv, rep_mono (Nat.le_refl _) (fun b _ h => to_rd h (fun b hb => ⟨k, hb0 b hb⟩)) (fun _ _ _ => rfl) _ h1, h2⟩, fun b hb => ⟨?_, k, hb0 b hb⟩⟩
          rcases hg.mine k b (hb0 b hb) with ⟨h, _⟩ | h
          · obtain ⟨k', hk', hb'⟩ := hL b h
            have := hg.sep _ _ _ (hb0 b hb) hb'
            omega
          · exact h
        · exact h.elim
    · exact h.elim
  | cell x e =>
    simp only [finOne] at h
    split at h
    · rename_i l d hlk
      obtain ⟨h1, h2⟩ := h
      have hk := look_ok hg hl hlk
      have hev : a.eval (.tmp x) = a.tmps.getD x undef := rfl
      rw [hev] at hk
      obtain ⟨ad, cs, hv, h3, h4⟩ := aim_ok hg hk h1
      refine ⟨mkv d.1 cs, ?_, ⟨cs, rep_mono (Nat.le_refl _) (fun b _ h => to_rd h (fun b hb => by cases hb)) (fun _ _ _ => rfl) _ h3, rfl⟩, fun b hb => by cases hb⟩
      have hl' := tm_loadVar (P := P) ok h2 h4 (rep_len _ h3)
      simp only [rdRes, hv]
      simp [asAddr, hl']
    · exact h.elim

theorem fin_list (hg : Good B R0 L st V w) (hl : Link N V a) (ok : TabOK P tab) (hL : ∀ b, L b → ∃ k, ghost ≤ k ∧ ownBlk (st k) (V k) = some b) : ∀ {rvs : List ResultVar} {ds : List Dv}, finAll tab st rvs ds →
    ∃ vs, (rvs.mapM (rdRes a.tmps)).run P w = .ok vs w ∧ vs.length = rvs.length ∧ ∀ R, (∀ b, RO B R0 st V b ∨ True → (R0 b ∧ b < B.heap.size) ∨ B.heap.size ≤ b → R b) → tupRep w R ds vs
  | [], ds, h => by
    simp only [finAll] at h
    subst h
    exact ⟨[], by simp, rfl, fun R _ => rfl⟩
  | rv :: r, ds, h => by
    simp only [finAll] at h
    split at h
    · rename_i d ds
      obtain ⟨v, h1, h2, _⟩ := fin_one hg hl ok hL h.1
      obtain ⟨vs, k1, k2, k3⟩ := fin_list hg hl ok hL h.2
      refine ⟨v :: vs, ?_, by simp [k2], fun R hR => ⟨v, vs, rfl, ?_, k3 R hR⟩⟩
      · rw [List.mapM_cons, Sem.run_bind, h1]
        simp only [Result.andThen_ok, Sem.run_bind, k1, Sem.run_pure]
      · obtain ⟨cs, q1, q2⟩ := h2
        exact ⟨cs, rep_mono (Nat.le_refl _) (fun b _ h => hR b (.inr trivial) (h.imp id (fun h => h.1))) (fun _ _ _ => rfl) _ q1, q2⟩
    · exact h.elim

def joinV : List Value → Value
  | [v] => v
  | vs => .tuple vs.toArray

theorem results_run {fn : Func} (tmps : Array Value) {vs : List Value} (h : (fn.results.toList.mapM (rdRes tmps)).run P w = .ok vs w) : (results fn tmps).run P w = .ok (joinV vs) w := by
  have e : results fn tmps = (do let vs ← fn.results.mapM (rdRes tmps); pure (if h : vs.size = 1 then vs[0] else .tuple vs)) := rfl
  rw [e, Array.mapM_eq_mapM_toList]
  simp only [Sem.run_bind, map_eq_pure_bind, bind_assoc, pure_bind, h, Result.andThen_ok, Sem.run_pure]
  rcases vs with _ | ⟨v, _ | ⟨u, r⟩⟩ <;> simp [joinV]


theorem enters {f : FuncId} {fn : Func} (hf : P.funcs[f]? = some fn) (hname : (fn.name == "runtime.NumGoroutine") = false) (hb : fn.body.isSome = true) (args : Array Value) (w : World) :
    (callFunc f args).run P w = .ok (.enter f args) w := by
  have h1 : ¬ fn.name = "runtime.NumGoroutine" := by simpa using hname
  have h2 : ¬ fn.body = none := by intro h; rw [h] at hb; cases hb
  simp [callFunc, hf, h1, h2]

theorem fin_ios (hg : Good B R0 L st V w) (hV : ∀ k, ghost ≤ k → V k = N.g k) {R : Nat → Prop} (hR : ∀ b, RO B R0 st V b → R b) : ∀ {args : List Arg} {k : Nat} {ds : List Dv} {vals : List Value}, args.length = vals.length → (∀ j, j < vals.length → N.g (ghost + (k + j)) = vals.getD j undef) → finIos st args k ds →
    iosRep w R args vals ds
  | [], k, ds, vals, hlen, hv, h => h
  | .obj d :: r, k, ds, [], hlen, _, _ => by simp at hlen
  | .val d :: r, k, ds, [], hlen, _, _ => by simp at hlen
  | .ptr d :: r, k, ds, [], hlen, _, _ => by simp at hlen
  | .obj d :: r, k, ds, v :: vs, hlen, hv, h => by
    simp only [finIos] at h
    split at h
    · rename_i e es
      obtain ⟨⟨n, hn⟩, h⟩ := h
      refine ⟨v, vs, e, es, rfl, rfl, ?_, fin_ios hg hV hR (by simpa using hlen) (fun j hj => ?_) h⟩
      · have hr := hg.rep (ghost + k)
        rw [hn, hV _ (by omega)] at hr
        have := hv 0 (by simp)
        simp only [Nat.add_zero] at this
        rw [this] at hr
        obtain ⟨ad, cs, h1, h2, h3⟩ := hr
        exact ⟨ad, cs, h1, rep_mono (Nat.le_refl _) (fun b _ => hR b) (fun _ _ _ => rfl) _ h2, h3⟩
      · have := hv (j + 1) (by simpa using hj)
        rw [show ghost + (k + 1 + j) = ghost + (k + (j + 1)) by omega, this]
        rfl
    · exact h.elim
  | .val d :: r, k, ds, v :: vs, hlen, hv, h => by
    refine ⟨v, vs, rfl, fin_ios hg hV hR (by simpa using hlen) (fun j hj => ?_) h⟩
    have := hv (j + 1) (by simpa using hj)
    rw [show ghost + (k + 1 + j) = ghost + (k + (j + 1)) by omega, this]
    rfl
  | .ptr d :: r, k, ds, v :: vs, hlen, hv, h => by
    refine ⟨v, vs, rfl, fin_ios hg hV hR (by simpa using hlen) (fun j hj => ?_) h⟩
    have := hv (j + 1) (by simpa using hj)
    rw [show ghost + (k + 1 + j) = ghost + (k + (j + 1)) by omega, this]
    rfl

theorem ios_own : ∀ {args : List Arg} {k : Nat} {ds : List Dv} {j : Nat} {d : Dv}, finIos st args k ds → args[j]? = some (.obj d) → ∃ n t x, st (ghost + (k + j)) = .obj n t x
  | [], k, ds, j, d, h, hj => by simp at hj
  | x :: r, k, ds, j, d, h, hj => by
    cases j with
    | zero =>
      simp only [List.getElem?_cons_zero, Option.some.injEq] at hj
      subst hj
      simp only [finIos] at h
      split at h
      · obtain ⟨⟨n, hn⟩, _⟩ := h
        exact ⟨n, _, _, hn⟩
      · exact h.elim
    | succ j =>
      rw [show k + (j + 1) = k + 1 + j by omega]
      have hj' : r[j]? = some (.obj d) := by simpa using hj
      cases x with
      | obj e =>
        simp only [finIos] at h
        split at h
        · exact ios_own h.2 hj'
        · exact h.elim
      | val e => exact ios_own (ds := ds) h hj'
      | ptr e => exact ios_own (ds := ds) h hj'

theorem io_arg : ∀ {args : List Arg} {vals : List Value} {b : Nat}, b ∈ ioBlks args vals → ∃ (j : Nat) (d : Dv) (v : Value), args[j]? = some (.obj d) ∧ vals[j]? = some v ∧ ioBlk (.obj d) v = some b
  | [], vals, b, h => by simp [ioBlks] at h
  | _ :: _, [], b, h => by simp [ioBlks] at h
  | x :: xs, v :: vs, b, h => by
    simp only [ioBlks, List.mem_append] at h
    rcases h with h | h
    · cases x with
      | obj d => exact ⟨0, d, v, rfl, rfl, by simpa using h⟩
      | val d => simp [ioBlk] at h
      | ptr d => simp [ioBlk] at h
    · obtain ⟨j, d, u, h1, h2, h3⟩ := io_arg h
      exact ⟨j + 1, d, u, by simpa using h1, by simpa using h2, h3⟩

/-- A function does what its body is shown to do. -/
theorem fn_ok (ok : TabOK P tab) (hΓ : ConsOK P Γ) (hm : P.follows .mixedOrders = true) {f : FuncId} {fn : Func} {c : Code} {con : Con} (hf : P.funcs[f]? = some fn) (hname : (fn.name == "runtime.NumGoroutine") = false) (hb : fn.body = some c)
    (hfit : (fits fn.ntmps c && decide (fn.ntmps ≤ ghost)) = true)
    (h : ∀ args out, con args = some out → args.length ≤ fn.ntmps ∧ Ex tab Γ c (EndsF tab fn.results.toList args out) (ini args)) : ConOK P f con := by
  intro args out vals w R hc hr
  obtain ⟨hlen, hex⟩ := h args out hc
  simp only [Bool.and_eq_true, decide_eq_true_eq] at hfit
  obtain ⟨hfit, hgh⟩ := hfit
  have hal := args_len hr.rep
  refine .inl ⟨f, vals.toArray, w, enters hf hname (by rw [hb]; rfl) _ _, calls_of_wp hf hb ?_⟩
  let N : Env := ⟨fn.ntmps, fun k => vals.getD (k - ghost) undef, hgh⟩
  have hg0 := begin_good hr
  have hl0 : Link N (begV vals) { tmps := vals.toArray ++ Array.replicate (fn.ntmps - vals.toArray.size) undef, defers := [] } := by
    refine ⟨by simp [N]; omega, fun k hk => ?_, fun k hk => ?_, rfl⟩
    · simp only [begV, if_pos hk, Array.getD_eq_getD_getElem?, List.getD_eq_getElem?_getD, Array.getElem?_append, List.size_toArray]
      split
      · rename_i hlt; simp [hlt]
      · rename_i hlt
        rw [List.getElem?_eq_none (by omega), Array.getElem?_replicate]
        split <;> rfl
    · simp only [begV, N, if_neg (show ¬ k < ghost by omega)]
  have hs0 : Sim w R (fun b => b ∈ ioBlks args vals) N (ini args) { tmps := vals.toArray ++ Array.replicate (fn.ntmps - vals.toArray.size) undef, defers := [] } w := by
    refine ⟨begV vals, ghost + vals.length + 1, hg0, hl0, fun k n hn => ?_⟩
    unfold ini at hn
    split at hn
    · rename_i hk
      split at hn
      · simp [stampOf] at hn
      · rename_i d hd
        simp only [stampOf, Option.some.injEq] at hn
        omega
      · simp [stampOf] at hn
      · simp [stampOf] at hn
    · split at hn
      · rename_i d hd
        simp only [stampOf, Option.some.injEq] at hn
        have := (List.getElem?_eq_some_iff.1 hd).1
        omega
      · simp [stampOf] at hn
  refine wp_mono (ex_sound ok hΓ hm c _ _ _ _ hfit hex hs0) ?_
  rintro e a' w' ⟨st, hq, hsim⟩
  obtain ⟨V, _, hg, hl, _⟩ := hsim.out
  have core : finIos st args 0 out.ios → ∀ v, resRep w' (Rd w R out.res v) out.res v → (∀ b, ownBlk (out.res.slot 0) v = some b → w.heap.size ≤ b ∧ ∃ k, ownBlk (st k) (V k) = some b) → After w R args vals out v w' := by
    intro h2 v hv hb
    refine ⟨hg.kept, fun b h => (hb b h).1, hv, ?_⟩
    refine fin_ios (N := N) hg hl.lent (fun b h => to_rd h (fun b hb' => (hb b hb').2)) hal (fun j hj => ?_) h2
    simp [N, show ghost + (0 + j) - ghost = j by omega]
  have fin : Finish tab fn.results.toList args out st → a'.defers = [] ∧ ∃ v, (results fn a'.tmps).run P w' = .ok v w' ∧ ∃ v', Ending.returned v = ends out.res v' ∧ After w R args vals out v' w' := by
    intro hfin
    obtain ⟨h1, h2⟩ := hfin.out
    refine ⟨hl.defers, ?_⟩
    have hnp := finRes_np h1
    simp only [ends_ret hnp]
    have hL : ∀ b, b ∈ ioBlks args vals → ∃ k, ghost ≤ k ∧ ownBlk (st k) (V k) = some b := by
      intro b hb
      obtain ⟨j, d, v, a1, a2, a3⟩ := io_arg hb
      obtain ⟨n, t, x, hn⟩ := ios_own h2 a1
      rw [Nat.zero_add] at hn
      refine ⟨ghost + j, by omega, ?_⟩
      have hVj : V (ghost + j) = v := by
        rw [hl.lent _ (by omega)]
        simp [N, List.getD_eq_getElem?_getD, show ghost + j - ghost = j by omega, a2]
      rw [hn, hVj, ← a3]
      cases v <;> try rfl
      rename_i A
      cases A <;> rfl
    have mk := core h2
    unfold finRes at h1
    split at h1
    · rename_i hrv
      refine ⟨_, results_run (vs := []) _ (by rw [hrv]; simp), _, rfl, mk _ ?_ (fun b hb => ?_)⟩
      · rw [h1]; trivial
      · rw [h1] at hb; cases hb
    · rename_i rv hrv
      obtain ⟨v, k1, k2, k3⟩ := fin_one (P := P) hg hl ok hL h1
      refine ⟨_, results_run (vs := [v]) _ (by rw [hrv]; simp [k1]), _, rfl, mk _ k2 k3⟩
    · rename_i hne hne1
      split at h1
      · rename_i ds hds
        obtain ⟨vs, k1, k2, k3⟩ := fin_list (P := P) hg hl ok hL h1
        have hvs : joinV vs = .tuple vs.toArray := by
          rcases vs with _ | ⟨v, _ | ⟨u, r⟩⟩
          · rfl
          · simp only [List.length_cons, List.length_nil, Nat.zero_add] at k2
            obtain ⟨rv, hrv⟩ := List.length_eq_one_iff.1 k2.symm
            exact absurd hrv (hne1 rv)
          · rfl
        refine ⟨_, results_run (vs := vs) _ k1, _, rfl, mk _ ?_ (fun b hb => ?_)⟩
        · rw [hvs, hds]
          refine ⟨vs, rfl, k3 _ (fun b _ h => ?_)⟩
          rcases h with h | h
          · exact .inl h
          · exact .inr ⟨h, by simp [Res.slot, ownBlk]⟩
        · rw [hds] at hb; cases hb
      · exact h1.elim
  cases e with
  | normal => exact fin hq
  | ret => exact fin hq
  | panic ch =>
    obtain ⟨h1, h2⟩ := hq.out
    refine ⟨hl.defers, undef, ?_, core h2 _ ?_ (fun b hb => ?_)⟩
    · rw [h1]; rfl
    · rw [h1]; trivial
    · rw [h1] at hb; cases hb
  | _ => exact hq.elim

end
end Go.Tm
