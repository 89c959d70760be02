/- What an operation does: numbers, bytes, results' parts, conversions, lengths, what is appended. -/
import Derived.Test.YtlckajldmooefaaTmDid6
import Derived.Laws.BytesArg
set_option linter.unusedVariables false
set_option linter.unusedSimpArgs false
namespace Go.Tm

theorem byteAt_eq (s : ByteArray) (i : Nat) (h : i < s.size) : ((s[i]'h).toNat : Int) = byteAt s i := by
  have hl : i < s.data.toList.length := by rw [Array.length_toList]; exact h
  unfold byteAt
  rw [List.getD_eq_getElem?_getD, List.getElem?_eq_getElem hl, Option.getD_some]
  rfl

theorem strOf_eq (xs : List Int) : strOf xs = strOfNums xs := rfl

section
variable {P : Program} {tab : Tab} {B : World} {R0 L : Nat → Prop} {st : St} {V : Nat → Value} {w : World} {N : Env} {a : Act} {o : Oper} {ups : Ups} {m : Nat}

theorem did_bin (ok : TabOK P tab) (hg : Good B R0 L st V w) (hl : Link N V a) {op : BinOp} {xt yt : TypeId} {x y : Operand} {c1 c2 : Slot} {t u : Ty} {v : t.den} {z : u.den} {d : Dv} (ho : o.op = .binOp op xt x y yt)
    (hx : look st x = some ⟨.val t v, c1⟩) (hy : look st y = some ⟨.val u z, c2⟩) (hb : bin op ⟨t, v⟩ ⟨u, z⟩ = some d) (hty : (match t with | .prod a b => decide (ty tab xt = some (.prod a b)) && decide ((Ty.prod a b).deep < 10000) | .bool => decide (ty tab xt = some .bool) | _ => true) = true)
    (hi : into o.dst (.val d.1 d.2) = some ups) : Did P B R0 L st V w a o ups := by
  have h1 := (look_ok hg hl hx).rep
  have h2 := (look_ok hg hl hy).rep
  obtain ⟨r, hr, hv⟩ := bin_ok (P := P) (tab := tab) ok (op := op) (xt := xt) (X := x) (Y := y) (x := ⟨t, v⟩) (y := ⟨u, z⟩) h1 h2 hb
    (fun a b e => by simp only at e; subst e; simp only [Bool.and_eq_true, decide_eq_true_eq] at hty; exact hty)
    (fun e => by simp only at e; subst e; simpa using hty)
  refine did_into hg (v := r) (s := .val d.1 d.2) ?_ hv rfl hi
  simp only [execOp, ho]
  rw [Sem.run_bind, hr]
  rfl

theorem un_ok {w : World} {R : Nat → Prop} {op : UnOp} {x d : Dv} {v : Value} (hx : vrep w R x.1 x.2 v) (h : un op x = some d) : ∃ r, (Op.unary op v).run P w = .ok r w ∧ vrep w R d.1 d.2 r := by
  obtain ⟨t, xv⟩ := x
  unfold un at h
  split at h
  · rename_i k n e
    cases e
    injection h with h
    subst h
    rw [vrep_int hx]
    exact ⟨.int k _, by simp [Op.unary, Op.intArith], mk_int _ _ _ _⟩
  · rename_i k n e
    cases e
    injection h with h
    subst h
    rw [vrep_int hx]
    exact ⟨.int k _, by simp [Op.unary, Op.intBits, bits], mk_int _ _ _ _⟩
  · rename_i b e
    cases e
    injection h with h
    subst h
    rw [vrep_bool hx]
    exact ⟨.bool _, by simp [Op.unary], mk_bool _ _ _⟩
  · cases h

theorem did_un (hg : Good B R0 L st V w) (hl : Link N V a) {op : UnOp} {xt : TypeId} {x : Operand} {c1 : Slot} {t : Ty} {v : t.den} {d : Dv} (ho : o.op = .unOp op xt x) (hx : look st x = some ⟨.val t v, c1⟩) (hb : un op ⟨t, v⟩ = some d)
    (hi : into o.dst (.val d.1 d.2) = some ups) : Did P B R0 L st V w a o ups := by
  have h1 := (look_ok hg hl hx).rep
  obtain ⟨r, hr, hv⟩ := un_ok (P := P) (x := ⟨t, v⟩) h1 hb
  refine did_into hg (v := r) (s := .val d.1 d.2) ?_ hv rfl hi
  simp only [execOp, ho]
  simp [hr]

theorem did_index_str (ok : TabOK P tab) (hg : Good B R0 L st V w) (hl : Link N V a) {t : TypeId} {x i : Operand} {c : Slot} {s : ByteArray} {li : Lk} {n : Int} (ho : o.op = .index t x i) (hx : look st x = some ⟨.val .str s, c⟩) (hi' : look st i = some li)
    (ht : ty tab t = some .str) (hn : intOf? li = some n) (h0 : 0 ≤ n) (h1 : n < (s.size : Int)) (hi : into o.dst (.val (.int .u8) (byteAt s n.toNat)) = some ups) : Did P B R0 L st V w a o ups := by
  have hv := vrep_str (look_ok hg hl hx).rep
  obtain ⟨k, hk⟩ := intOf_ok hg hl hi' hn
  refine did_into hg (v := .int .u8 (byteAt s n.toNat)) (s := .val (.int .u8) (byteAt s n.toNat)) ?_ (mk_int _ _ _ _) rfl hi
  simp only [execOp, ho, hv, hk]
  have := run_index_string (P := P) w t s k n (tab_str ok ht)
  rw [dif_pos ⟨h0, h1⟩] at this
  rw [Sem.run_bind, this, byteAt_eq]
  rfl

theorem did_index_arr (ok : TabOK P tab) (hg : Good B R0 L st V w) (hl : Link N V a) {t : TypeId} {x i : Operand} {c : Slot} {k : Nat} {u : Ty} {xs : List u.den} {li : Lk} {n : Int} (ho : o.op = .index t x i) (hx : look st x = some ⟨.val (.arr k u) xs, c⟩) (hi' : look st i = some li)
    (ht : ty tab t = some (.arr k u)) (hn : intOf? li = some n) (h0 : 0 ≤ n) (h1 : n < (k : Int)) (hi : into o.dst (.val u (xs.getD n.toNat u.dflt)) = some ups) : Did P B R0 L st V w a o ups := by
  obtain ⟨cs, hr, hv⟩ := (look_ok hg hl hx).rep
  obtain ⟨q, hq⟩ := intOf_ok hg hl hi' hn
  obtain ⟨e, he, hte, hz⟩ := tab_arr ok ht
  obtain ⟨hlen, hrl⟩ := hr
  have hlt : n.toNat < xs.length := by omega
  have hget := hrl.get (fun x c hx => rep_len u hx) n.toNat _ (getD_some hlt u.dflt)
  have hp := tm_part ok hte (all := cs) (off := n.toNat * u.sz) rfl hget
  refine did_into hg (v := mkv u _) (s := .val u (xs.getD n.toNat u.dflt)) ?_ ⟨_, hget, rfl⟩ rfl hi
  have hv' : a.eval x = .agg cs.toArray := by rw [hv]; rfl
  simp [execOp, ho, Instr.index, hq, asIntOf, hv', run_underlying he, h0, h1, tm_sizeOf ok hte, hp]

theorem tup_at {w : World} {R : Nat → Prop} : ∀ {l : List Dv} {vs : List Value} {j : Nat} {d : Dv}, tupRep w R l vs → l[j]? = some d → ∃ v, vs[j]? = some v ∧ vrep w R d.1 d.2 v
  | [], _, j, d, h, hj => by simp at hj
  | x :: l, _, j, d, h, hj => by
    obtain ⟨v, r, rfl, h1, h2⟩ := h
    cases j with
    | zero => simp only [List.getElem?_cons_zero, Option.some.injEq] at hj; subst hj; exact ⟨v, rfl, h1⟩
    | succ j => simpa using tup_at h2 (by simpa using hj)

theorem did_extract (hg : Good B R0 L st V w) (hl : Link N V a) {x : Operand} {c : Slot} {l : List Dv} {j : Nat} {d : Dv} (ho : o.op = .extract x j) (hx : look st x = some ⟨.tup l, c⟩) (hj : l[j]? = some d) (hi : into o.dst (.val d.1 d.2) = some ups) :
    Did P B R0 L st V w a o ups := by
  obtain ⟨vs, hv, ht⟩ := (look_ok hg hl hx).rep
  obtain ⟨v, h1, h2⟩ := tup_at ht hj
  refine did_into hg (v := v) (s := .val d.1 d.2) ?_ h2 rfl hi
  have hv' : a.eval x = .tuple vs.toArray := hv
  simp [execOp, ho, Instr.extract, hv', h1]

theorem did_len (ok : TabOK P tab) (hg : Good B R0 L st V w) (hl : Link N V a) {x : Operand} {l : Lk} {t : TypeId} {n : Nat} (ho : o.op = .call { callee := .builtin .len, args := #[x], argTypes := #[t] }) (hx : look st x = some l)
    (hn : (∃ s c, l = ⟨.val .str s, c⟩ ∧ ty tab t = some .str ∧ n = s.size) ∨ (∃ u, ty tab t = some (.slice u) ∧ ((∃ u' xs, slc l = some ⟨u', xs⟩ ∧ n = xs.length) ∨ (l.s = .nil ∧ n = 0))) ∨ (∃ u, ty tab t = some (.arr n u)))
    (hi : into o.dst (.val (.int .i64) (n : Int)) = some ups) : Did P B R0 L st V w a o ups := by
  have h := look_ok hg hl hx
  refine did_into hg (v := .int .i64 (n : Int)) (s := .val (.int .i64) (n : Int)) ?_ (mk_int _ _ _ _) rfl hi
  simp only [execOp, ho]
  rcases hn with ⟨s, c, rfl, ht, rfl⟩ | ⟨u, ht, hn⟩ | ⟨u, ht⟩
  · have hv := vrep_str h.rep
    simp [resolve, invoke, builtin, hv, run_len_string w t o.type s (tab_str ok ht), goInt]
  · obtain ⟨e, he, _⟩ := tab_slice ok ht
    rcases hn with ⟨u', xs, hs, rfl⟩ | ⟨hs, rfl⟩
    · obtain ⟨A, c, cs, hv, _⟩ := slc_ok hg h hs
      simp [resolve, invoke, builtin, hv, Builtin.len_, run_underlying he, goInt]
    · have hv := h.rep
      rw [hs] at hv
      simp only [SlotRep] at hv
      simp [resolve, invoke, builtin, hv, Builtin.len_, run_underlying he, goInt]
  · obtain ⟨e, he, _⟩ := tab_arr ok ht
    simp [resolve, invoke, builtin, Builtin.len_, run_underlying he, goInt]

theorem bytes_rep (w : World) (R : Nat → Prop) (k : IntKind) (xs : List Int) : repList (rep w R (.int k)) xs (xs.map (Value.int k)) := by
  induction xs with
  | nil => rfl
  | cons x xs ih => exact ⟨[.int k x], _, by simp, rfl, ih⟩

theorem rep_ints {w : World} {R : Nat → Prop} {k : IntKind} : ∀ {xs : List Int} {cs : List Value}, repList (rep w R (.int k)) xs cs → cs = xs.map (Value.int k)
  | [], cs, h => by simpa [repList] using h
  | x :: xs, cs, h => by
    obtain ⟨c1, c2, rfl, h1, h2⟩ := h
    simp only [rep] at h1
    rw [h1, rep_ints h2]
    rfl

theorem more_ok (ok : TabOK P tab) (hg : Good B R0 L st V w) {l : Lk} {v : Value} (h : LkOK (RO B R0 st V) st V w l v) {u : Ty} {t2 : TypeId} {ys : List u.den} (hm : more tab u t2 l = some ys) (hu : u.sz = 1 ∨ True) :
    ∃ d2 new, P.underlying t2 = some d2 ∧ (d2 = .string ∨ ∃ e2, d2 = .slice e2) ∧ (Builtin.lenOf v).run P w = .ok ys.length w ∧ (∀ w1 : World, w1.heap = w.heap → (Builtin.firstCells u.sz ys.length v).run P w1 = .ok new.toArray w1) ∧
      new.length = ys.length * u.sz ∧ repList (rep w (RO B R0 st V) u) ys new := by
  unfold more at hm
  split at hm
  · rename_i u2 hs ht
    injection hm with hm
    subst hm
    obtain ⟨e, he, _⟩ := tab_slice ok ht
    have hv := h.rep
    rw [hs] at hv
    simp only [SlotRep] at hv
    subst hv
    exact ⟨_, [], he, .inr ⟨e, rfl⟩, by simp [Builtin.lenOf], fun w1 _ => by simp [Builtin.firstCells], by simp, rfl⟩
  · rename_i s hs ht
    unfold castTo at hm
    split at hm
    · rename_i hc
      injection hc with hc
      subst hc
      injection hm with hm
      subst hm
      have hv := h.rep
      rw [hs] at hv
      have hv := vrep_str hv
      subst hv
      have hlen : (bytesOf s).length = s.size := by rw [bytesOf, List.length_map, Array.length_toList]; rfl
      refine ⟨_, (bytesOf s).map (Value.int .u8), tab_str ok ht, .inl rfl, by rw [hlen]; simp [Builtin.lenOf], fun w1 _ => ?_, by simp [Ty.sz], bytes_rep _ _ _ _⟩
      rw [hlen]
      simp only [Builtin.firstCells, Sem.run_pure]
      congr 1
      have hx : s.extract 0 s.size = s := by simp
      rw [hx]
      apply Array.ext'
      simp [bytesOf]
    · cases hm
  · rename_i u2 ht _
    split at hm
    · rename_i u' ys' hs
      unfold castTo at hm
      split at hm
      · rename_i hc
        injection hc with hc
        subst hc
        injection hm with hm
        subst hm
        obtain ⟨e, he, _⟩ := tab_slice ok ht
        obtain ⟨A, c, cs, rfl, h1, h2, h3, h4⟩ := slc_ok hg h hs
        have hl3 := h3.length (fun x c hx => rep_len u' hx)
        refine ⟨_, cs, he, .inr ⟨e, rfl⟩, by simp [Builtin.lenOf], fun w1 hw1 => ?_, hl3, h3⟩
        rcases h4 with h4 | ⟨ad, rfl, h5⟩
        · have h40 : ys'.length = 0 := by rw [h4]; rfl
          have hcs : cs = [] := List.eq_nil_of_length_eq_zero (by rw [hl3, h40, Nat.zero_mul])
          subst hcs
          rw [h40]
          cases A with
          | none => simp [Builtin.firstCells]
          | some ad => simp [Builtin.firstCells, loadCells, loadCellsFrom]
        · exact run_firstCells_some w1 u'.sz _ ad _ _ cs hl3 (fun j v hv => (lies_move (by rw [hw1]) h5) j v hv)
      · cases hm
    · cases hm
  · cases hm

def Lost (st : St) (V : Nat → Value) (u : Ty) (A : Option Addr) : Option Nat → Prop
  | none => A = none
  | some s => (∃ n ys, st s = .own n u ys) ∧ (∀ ad, A = some ad → ownBlk (st s) (V s) = some ad.block)

theorem prior_ok (hg : Good B R0 L st V w) {l : Lk} {v : Value} (h : LkOK (RO B R0 st V) st V w l v) {u : Ty} {xs : List u.den} {s : Option Nat} (hp : prior u l = some (xs, s)) :
    ∃ A c cs, v = .slice A xs.length c ∧ xs.length ≤ c ∧ c ≤ maxLen ∧ repList (rep w (RO B R0 st V) u) xs cs ∧ ((A = none ∧ c = 0) ∨ ∃ ad, A = some ad ∧ Mem w ad (c * u.sz) cs) ∧
      Lost st V u A s := by
  obtain ⟨sl, c⟩ := l
  have hr := h.rep
  have ho := h.own
  simp only at hr ho
  unfold prior at hp
  simp only at hp
  split at hp
  · simp only [Option.some.injEq, Prod.mk.injEq] at hp
    obtain ⟨rfl, rfl⟩ := hp
    simp only [SlotRep] at hr
    exact ⟨none, 0, [], by simpa using hr, by simp, Nat.zero_le _, rfl, .inl ⟨rfl, rfl⟩, rfl⟩
  · rename_i n k n' u' ys
    split at hp
    · rename_i hn
      subst hn
      simp only [Option.map_eq_some_iff, Prod.mk.injEq] at hp
      obtain ⟨z, hz, rfl, rfl⟩ := hp
      unfold castTo at hz
      split at hz
      · rename_i hc
        injection hc with hc
        subst hc
        injection hz with hz
        subst hz
        have hk := ho n k rfl
        have hv := hr _ _ hk.symm
        have hkr := hg.rep k
        rw [← hk] at hkr
        obtain ⟨A, c, cs, hV, q1, q2, q3, q4⟩ := hkr
        refine ⟨A, c, cs, hv.trans hV, q1, q2, q3, q4, ⟨n, ys, hk.symm⟩, fun ad hA => ?_⟩
        rw [← hk, hV, hA]
        rfl
      · cases hz
    · cases hp
  · rename_i n k len n' u' ys
    split at hp
    · rename_i hn
      subst hn
      simp only [Option.map_eq_some_iff, Prod.mk.injEq] at hp
      obtain ⟨z, hz, rfl, rfl⟩ := hp
      unfold castTo at hz
      split at hz
      · rename_i hc
        injection hc with hc
        subst hc
        injection hz with hz
        subst hz
        have hk := ho n k rfl
        obtain ⟨h0, A, L', c, A', hV, hv, h8⟩ := hr _ _ hk.symm
        have hkr := hg.rep k
        rw [← hk] at hkr
        obtain ⟨A2, c2, cs, hV2, q1, q2, q3, q4⟩ := hkr
        rw [hV] at hV2
        injection hV2 with e1 e2 e3
        subst e1 e2 e3
        have hAA : A' = A := by
          rcases h8 with ⟨h8, h9⟩ | ⟨ad, j, h8, h9, hj, hj'⟩
          · rw [h8, h9]
          · rw [h8, h9]
            have : j = 0 := by
              rcases Nat.eq_zero_or_pos c with h | h
              · rw [h, Nat.zero_mul] at hj; omega
              · have := hj' h; omega
            rw [this, add_zero]
        subst hAA
        have hlen : ((ys : List u'.den).take len).length = len := by simp; omega
        refine ⟨A', c, cs.take (len * u'.sz), by rw [hlen]; exact hv, by rw [hlen]; omega, q2, q3.take (fun x c hx => rep_len u' hx) len, ?_, ⟨n, ys, hk.symm⟩, fun ad hA => ?_⟩
        · rcases q4 with q4 | ⟨ad, q4, hm⟩
          · exact .inl q4
          · exact .inr ⟨ad, q4, hm.cut _⟩
        · rw [← hk, hV, hA]
          rfl
      · cases hz
    · cases hp
  · cases hp

theorem did_append (ok : TabOK P tab) (hg : Good B R0 L st V w) (hl : Link N V a) (hf : Fresh m st) {x y : Operand} {lx ly : Lk} {t t2 : TypeId} (ho : o.op = .call { callee := .builtin .append, args := #[x, y], argTypes := #[t, t2] })
    (hx : look st x = some lx) (hy : look st y = some ly) (hi : stepAppend tab t t2 o.dst m lx ly = some ups) : Did P B R0 L st V w a o ups := by
  have h1 := look_ok hg hl hx
  have h2 := look_ok hg hl hy
  unfold stepAppend at hi
  split at hi
  · rename_i d u hd ht
    split at hi
    · rename_i ys xs s hmo hpr
      split at hi
      · rename_i hlim
        injection hi with hi
        subst hi
        obtain ⟨e, he, hte, hsz⟩ := tab_slice ok ht
        obtain ⟨bytes, hlk⟩ := ty_lk hte
        have hmx := tab_bytes ok hlk
        have hmp := Ty.mx_pos u hsz
        obtain ⟨d2, new, g1, g2, g3, g4, g5, g6⟩ := more_ok ok hg h2 hmo (.inr trivial)
        obtain ⟨A, c, cs, hv, p1, p2, p3, p4, p5⟩ := prior_ok hg h1 hpr
        have hcl := p3.length (fun x c hx => rep_len u hx)
        have hb : (xs.length + ys.length) * bytes ≤ 140737488355328 := Nat.le_trans (Nat.mul_le_mul_left _ hmx) hlim
        have hmax : xs.length + ys.length ≤ maxLen := by
          have := Nat.le_trans (Nat.le_mul_of_pos_right (xs.length + ys.length) hmp) hlim
          unfold maxLen
          omega
        have hone : ∀ v ∈ new, v.oneCell' = true := rep_cells (.arr ys.length u) (x := ys) ⟨rfl, g6⟩
        obtain ⟨A', c', w', r1, r2, r3, r4, r5, r6⟩ := tm_append ok (ty2 := o.type) he hlk hsz g1 g2 hcl p1 p2 p4 g3 g4 g5 hone hb hmax
        have hrun : (execOp a.eval o).run P w = .ok (.value (.slice A' (xs.length + ys.length) c')) w' := by
          simp only [execOp, ho]
          simp [resolve, invoke, builtin, hv, r1]
        refine ⟨_, w', .inl hrun, ?_⟩
        have hnew : ∀ R', (∀ b, b < w.heap.size → RO B R0 st V b → R' b) → (∀ b, RO B R0 st V b → ∀ ad, A = some ad → ad.block ≠ b) → OwnS w' R' u (xs ++ ys) (.slice A' (xs.length + ys.length) c') := by
          intro R' hR hA
          refine ⟨A', c', cs ++ new, by simp, by simpa using r2, r3, (p3.append g6).imp (fun x c _ hx => rep_mono r5.size hR (fun b hb hRb => r5.block b hb (hA b hRb)) u hx), r4⟩
        cases s with
        | none =>
          have p5 : A = none := p5
          subst p5
          simp only [List.nil_append, putO, hd, app_cons, app_nil]
          refine hg.fresh d _ _ r5 (fun hR => hnew _ hR (fun b _ ad h => by cases h)) (fun b hb => ?_) (fresh_own hf)
          rcases r6 with r6 | ⟨ad, r6, r7⟩
          · rw [r6] at hb; cases hb
          · rw [r6] at hb
            simp only [ownBlk, Option.some.injEq] at hb
            omega
        | some s =>
          obtain ⟨⟨n, zs, hst⟩, p6⟩ := p5
          simp only [putO, hd, app_append, app_cons, app_nil]
          have hA0 : ∀ b, RO B R0 st V b → ∀ ad, A = some ad → ad.block ≠ b := fun b hb ad hA e => hb.2 s (e ▸ p6 ad hA)
          have est : ∀ k, k ≠ d → put (put st s Slot.dead) d (Slot.own m u (xs ++ ys)) k = put st s Slot.dead k := fun k hk => put_ne _ _ hk
          refine hg.change (fun k => k = d ∨ k = s) r5.os r5.tape r5.output r5.size (fun b hb hK => r5.block b hb (fun ad hA e => ?_)) (fun k hk => ?_) ?_ ?_ ?_ ?_
          · exact hK s (.inr rfl) (e ▸ p6 ad hA)
          · simp only [not_or] at hk
            rw [put_ne _ _ hk.1, put_ne _ _ hk.1, put_ne _ _ hk.2]
            exact ⟨rfl, rfl⟩
          · intro hR k hk
            by_cases hkd : k = d
            · subst hkd
              simp only [put_same]
              exact hnew _ hR hA0
            · rcases hk with rfl | rfl
              · exact absurd rfl hkd
              · rw [put_ne _ _ hkd, put_same]
                trivial
          · intro k b hk hb
            by_cases hkd : k = d
            · subst hkd
              simp only [put_same] at hb ⊢
              rcases r6 with r6 | ⟨ad, r6, r7⟩
              · subst r6
                cases A' with
                | none => cases hb
                | some ad =>
                  simp only [ownBlk, Option.some.injEq] at hb
                  subst hb
                  exact .inr ⟨s, .inr rfl, p6 ad rfl, by rw [hst]; rfl, fun h => by rw [hst] at h; cases h⟩
              · rw [r6] at hb
                simp only [ownBlk, Option.some.injEq] at hb
                left; omega
            · rcases hk with rfl | rfl
              · exact absurd rfl hkd
              · rw [put_ne _ _ hkd, put_same] at hb
                cases hb
          · intro i j b hi hj hbi hbj
            have key : ∀ k, (k = d ∨ k = s) → ownBlk (put (put st s Slot.dead) d (Slot.own m u (xs ++ ys)) k) (put V d (.slice A' (xs.length + ys.length) c') k) = some b → k = d := by
              intro k hk hb
              by_cases hkd : k = d
              · exact hkd
              · rcases hk with rfl | rfl
                · exact absurd rfl hkd
                · rw [put_ne _ _ hkd, put_same] at hb
                  cases hb
            rw [key i hi hbi, key j hj hbj]
          · intro k n' s' hk hs' ha
            by_cases hsd : s' = d
            · subst hsd
              simp only [put_same]
              obtain ⟨q1, q2⟩ := fresh_own (t := u) (xs := xs ++ ys) hf k n' ha
              exact ⟨(fun t xs' h => absurd h (q1 t xs')), (fun t x' h => absurd h (q2 t x'))⟩
            · rcases hs' with rfl | rfl
              · exact absurd rfl hsd
              · rw [put_ne _ _ hsd, put_same]
                exact ⟨(fun t xs' h => by cases h), (fun t x' h => by cases h)⟩
      · cases hi
    · cases hi
  · cases hi

end
end Go.Tm
