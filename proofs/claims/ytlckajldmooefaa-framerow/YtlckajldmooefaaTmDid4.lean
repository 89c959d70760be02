/- What an operation does: values and rows that are built. -/
import Derived.Test.YtlckajldmooefaaTmDid3
import Derived.Great.BuildSlice
import Derived.Laws.MakeOwn
set_option linter.unusedVariables false
set_option linter.unusedSimpArgs false
namespace Go.Tm

/-! ### Several operands for good -/
theorem app_key {u : Ups} (hu : ∀ p ∈ u, owning p.2 = false) {k : Nat} : ∀ {st : St}, owning (app u st k) = true → (∀ p ∈ u, p.1 ≠ k) ∧ app u st k = st k := by
  induction u with
  | nil => intro st h; exact ⟨fun p hp => by simp at hp, rfl⟩
  | cons p u ih =>
    intro st h
    obtain ⟨h1, h2⟩ := ih (fun q hq => hu q (by simp [hq])) h
    simp only [app_cons] at h h2
    rw [h2] at h
    by_cases e : k = p.1
    · rw [e, put_same, hu p (by simp)] at h
      cases h
    · refine ⟨fun q hq => ?_, ?_⟩
      · rcases List.mem_cons.1 hq with rfl | hq
        · exact Ne.symm e
        · exact h1 q hq
      · show app u (put st p.1 p.2) k = st k
        rw [h2, put_ne _ _ e]

theorem RO_app {B : World} {R0 : Nat → Prop} {st : St} {V : Nat → Value} {u us : Ups} (hs : ∀ p ∈ u, p ∈ us) (hu : ∀ p ∈ us, owning p.2 = false) (b : Nat) (h : RO B R0 (app u st) V b) : RO B R0 (app us st) V b := by
  refine ⟨h.1, fun k hk => ?_⟩
  have ho : owning (app us st k) = true := by
    cases he : owning (app us st k) with
    | true => rfl
    | false => rw [ownBlk_none he] at hk; cases hk
  obtain ⟨h1, h2⟩ := app_key hu ho
  rw [h2] at hk
  have : app u st k = st k := by
    clear h hk ho h2
    induction u generalizing st with
    | nil => rfl
    | cons p u ih =>
      rw [app_cons, ih (fun q hq => hs q (by simp [hq])), put_ne _ _ (Ne.symm (h1 p (hs p (by simp))))]
  rw [← this] at hk
  exact h.2 k hk

def Frz (st : St) (u : Ups) : Prop := ∀ p ∈ u, (∃ n t xs, st p.1 = .own n t xs ∧ p.2 = .val (.slice t) xs) ∨ (st p.1 = p.2 ∧ owning p.2 = false ∧ aliasOf p.2 = none)

theorem Frz.low {st : St} {u : Ups} (h : Frz st u) : ∀ p ∈ u, owning p.2 = false ∧ aliasOf p.2 = none := by
  intro p hp
  rcases h p hp with ⟨n, t, xs, _, h2⟩ | ⟨_, h2, h3⟩
  · rw [h2]; exact ⟨rfl, rfl⟩
  · exact ⟨h2, h3⟩

theorem Good.frz {B : World} {R0 L : Nat → Prop} {V : Nat → Value} {w : World} {u : Ups} : ∀ {st : St}, Good B R0 L st V w → Frz st u → Good B R0 L (app u st) V w := by
  induction u with
  | nil => exact fun h _ => h
  | cons p u ih =>
    intro st hg hf
    have hg' : Good B R0 L (Tm.put st p.1 p.2) V w := by
      rcases hf p (by simp) with ⟨n, t, xs, h1, h2⟩ | ⟨h1, _⟩
      · rw [h2]; exact hg.freeze h1
      · rw [← h1, put_eta]; exact hg
    refine ih hg' (fun q hq => ?_)
    show (∃ n t xs, Tm.put st p.1 p.2 q.1 = Slot.own n t xs ∧ q.2 = Slot.val t.slice xs) ∨ (Tm.put st p.1 p.2 q.1 = q.2 ∧ owning q.2 = false ∧ aliasOf q.2 = none)
    by_cases e : q.1 = p.1
    · refine .inr ?_
      rw [e, put_same]
      rcases hf p (by simp) with ⟨n, t, xs, h1, h2⟩ | ⟨h1, h2, h3⟩ <;> rcases hf q (by simp [hq]) with ⟨n', t', xs', h1', h2'⟩ | ⟨h1', h2', h3'⟩
      · rw [e, h1] at h1'
        injection h1' with e1 e2 e3
        subst e2
        cases e3
        exact ⟨h2.trans h2'.symm, by rw [h2']; rfl, by rw [h2']; rfl⟩
      · rw [e, h1] at h1'
        rw [← h1'] at h2'
        cases h2'
      · rw [e, h1] at h1'
        rw [h1'] at h2
        cases h2
      · rw [e, h1] at h1'
        exact ⟨h1', h2', h3'⟩
    · rw [put_ne _ _ e]
      exact hf q (by simp [hq])

def looks (st : St) : List Operand → Option (List Lk)
  | [] => some []
  | x :: r => match look st x, looks st r with
    | some l, some ls => some (l :: ls)
    | _, _ => none

def allRep (w : World) (R : Nat → Prop) : List Dv → List Value → Prop
  | [], [] => True
  | d :: ds, v :: vs => vrep w R d.1 d.2 v ∧ allRep w R ds vs
  | _, _ => False

theorem allRep.mono {w : World} {R R' : Nat → Prop} (hR : ∀ b, R b → R' b) : ∀ {ds : List Dv} {vs : List Value}, allRep w R ds vs → allRep w R' ds vs
  | [], [], _ => trivial
  | d :: ds, v :: vs, h => ⟨vrep_mono (Nat.le_refl _) (fun b _ => hR b) (fun _ _ _ => rfl) h.1, allRep.mono hR h.2⟩
  | [], _ :: _, h => h.elim
  | _ :: _, [], h => h.elim

theorem frzAll_ok {B : World} {R0 L : Nat → Prop} {st : St} {V : Nat → Value} {w : World} {N : Env} {a : Act} (hg : Good B R0 L st V w) (hl : Link N V a) : ∀ {xs : List Operand} {ls : List Lk} {ws : List (Option Ty)} {ds : List Dv} {us : Ups},
    looks st xs = some ls → frzAll ls ws = some (ds, us) → Frz st us ∧ allRep w (RO B R0 (app us st) V) ds (xs.map a.eval)
  | [], ls, ws, ds, us, h1, h2 => by
    simp only [looks, Option.some.injEq] at h1
    subst h1
    simp only [frzAll, Option.some.injEq, Prod.mk.injEq] at h2
    obtain ⟨rfl, rfl⟩ := h2
    exact ⟨fun p hp => by simp at hp, trivial⟩
  | x :: xs, ls, ws, ds, us, h1, h2 => by
    simp only [looks] at h1
    split at h1
    · rename_i l ls' e1 e2
      injection h1 with h1
      subst h1
      simp only [frzAll] at h2
      split at h2
      · rename_i d u ds' us' e3 e4
        simp only [Option.some.injEq, Prod.mk.injEq] at h2
        obtain ⟨rfl, rfl⟩ := h2
        obtain ⟨f1, f2⟩ := frzAll_ok hg hl e2 e4
        obtain ⟨g1, g2, g3⟩ := frz_ok hg (look_ok hg hl e1) e3
        have hfu : Frz st u := by
          rcases g3 with rfl | ⟨s, n, t, ys, rfl, h⟩
          · intro p hp; simp at hp
          · intro p hp
            simp only [List.mem_singleton] at hp
            subst hp
            exact .inl ⟨n, t, ys, h, rfl⟩
        have hall : Frz st (u ++ us') := by
          intro p hp
          rcases List.mem_append.1 hp with hp | hp
          · exact hfu p hp
          · exact f1 p hp
        have hlow : ∀ p ∈ u ++ us', owning p.2 = false := fun p hp => (hall.low p hp).1
        exact ⟨hall, vrep_mono (Nat.le_refl _) (fun b _ hb => RO_app (fun p hp => List.mem_append_left _ hp) hlow b hb) (fun _ _ _ => rfl) g2,
          f2.mono (fun b hb => RO_app (fun p hp => List.mem_append_right _ hp) hlow b hb)⟩
      · cases h2
    · cases h1

/-! ### What is filled -/
theorem fold_set (off : Nat) : ∀ (new : List Value) (k : Nat) (cs : List Value), off + k + new.length ≤ cs.length →
    (new.zipIdx k).foldl (fun (r : Array Value) (x : Value × Nat) => r.setIfInBounds (off + x.2) x.1) cs.toArray = (cs.take (off + k) ++ new ++ cs.drop (off + k + new.length)).toArray
  | [], k, cs, h => by simp
  | v :: new, k, cs, h => by
    simp only [List.length_cons] at h
    simp only [List.zipIdx_cons, List.foldl_cons]
    have e : (cs.toArray.setIfInBounds (off + k) v) = (ovr cs (off + k) [v]).toArray := by
      apply Array.ext'
      simp only [Array.toList_setIfInBounds, ovr]
      rw [List.set_eq_take_append_cons_drop, if_pos (by omega)]
      simp
    rw [e, fold_set off new (k + 1) _ (by simp [ovr]; omega)]
    have := ovr_cons (cs := cs) (o := off + k) (v := v) (vs := new) (by omega)
    simp only [ovr] at this ⊢
    rw [← Nat.add_assoc, this]

theorem upd_get : ∀ {u : Ty} {v : u.den} {p : List Way} {t : Ty} {y : t.den} {v' : u.den}, upd u v p t y = some v' → ∃ y0 : t.den, get u v p = some ⟨t, y0⟩ := by
  intro u
  have base : ∀ {u : Ty} {v : u.den} {t : Ty} {y : t.den} {v' : u.den}, upd u v [] t y = some v' → ∃ y0 : t.den, get u v [] = some ⟨t, y0⟩ := by
    intro u v t y v' h
    obtain ⟨rfl, _⟩ := upd_nil h
    exact ⟨v, by cases t <;> rfl⟩
  induction u with
  | prod a b iha ihb =>
    intro v p t y v' h
    cases p with
    | nil => exact base h
    | cons s p =>
      cases s with
      | idx i => simp [upd] at h
      | fld j =>
        cases j with
        | zero =>
          simp only [upd, Option.map_eq_some_iff] at h
          obtain ⟨z, hz, _⟩ := h
          simpa only [get] using iha hz
        | succ j =>
          simp only [upd, Option.map_eq_some_iff] at h
          obtain ⟨z, hz, _⟩ := h
          simpa only [get] using ihb hz
  | arr n t0 ih =>
    intro v p t y v' h
    cases p with
    | nil => exact base h
    | cons s p =>
      cases s with
      | fld j => simp [upd] at h
      | idx i =>
        simp only [upd] at h
        split at h
        · rename_i z hz
          simp only [Option.map_eq_some_iff] at h
          obtain ⟨z', hz', _⟩ := h
          obtain ⟨y0, h0⟩ := ih hz'
          exact ⟨y0, by simp only [get, hz]; exact h0⟩
        · cases h
  | int k => intro v p t y v' h; cases p with | nil => exact base h | cons s p => cases s <;> simp [upd] at h
  | bool => intro v p t y v' h; cases p with | nil => exact base h | cons s p => cases s <;> simp [upd] at h
  | str => intro v p t y v' h; cases p with | nil => exact base h | cons s p => cases s <;> simp [upd] at h
  | unit => intro v p t y v' h; cases p with | nil => exact base h | cons s p => cases s <;> simp [upd] at h
  | slice t0 _ => intro v p t y v' h; cases p with | nil => exact base h | cons s p => cases s <;> simp [upd] at h

def way : Ty → Nat → Way
  | .arr _ _, i => .idx i
  | _, i => .fld i

theorem fillT_cons {u : Ty} {v : u.den} {i : Nat} {d : Dv} {r : List (Nat × Dv)} {v' : u.den} (h : fillT u v ((i, d) :: r) = some v') : ∃ v1, upd u v [way u i] d.1 d.2 = some v1 ∧ fillT u v1 r = some v' := by
  cases u <;> simp only [fillT] at h <;> (split at h <;> first | (cases h; done) | (rename_i v1 hv; exact ⟨v1, hv, h⟩))

theorem fill_ok {w : World} {R : Nat → Prop} (place : Nat → Option (Nat × Nat)) : ∀ (ps : List (Nat × Dv)) (vs : List Value) (u : Ty) (v : u.den) (v' : u.den) (cs : List Value), rep w R u v cs → allRep w R (ps.map (·.2)) vs →
    fillT u v ps = some v' → (∀ (i : Nat) (v : u.den) (t : Ty) (y : t.den), get u v [way u i] = some ⟨t, y⟩ → place i = some (offs u [way u i], t.sz)) →
    ∃ cs', Instr.fill place cs.toArray ((ps.map (·.1)).zip vs) = some cs'.toArray ∧ rep w R u v' cs'
  | [], vs, u, v, v', cs, h, hr, hf, hp => by
    have : fillT u v [] = some v := by cases u <;> rfl
    rw [List.map_nil] at *
    rw [this] at hf
    injection hf with hf
    subst hf
    exact ⟨cs, by simp [Instr.fill], h⟩
  | (i, d) :: ps, [], u, v, v', cs, h, hr, hf, hp => hr.elim
  | (i, d) :: ps, x :: vs, u, v, v', cs, h, hr, hf, hp => by
    obtain ⟨v1, h1, h2⟩ := fillT_cons hf
    obtain ⟨⟨cd, hd, rfl⟩, hr'⟩ := hr
    obtain ⟨y0, hy0⟩ := upd_get h1
    have hpl := hp i v d.1 y0 hy0
    obtain ⟨k1, k2⟩ := rep_upd u v cs [way u i] d.1 d.2 v1 cd h h1 hd
    have hl := rep_len _ h
    have hld := rep_len _ hd
    have hcd := mkv_cells hd
    obtain ⟨cs', g1, g2⟩ := fill_ok place ps vs u v1 v' _ k1 hr' h2 hp
    refine ⟨cs', ?_, g2⟩
    simp only [List.map_cons, List.zip_cons_cons, Instr.fill, hpl, hcd]
    rw [if_neg (by simp [hld]; omega)]
    have e : (cd.toArray.zipIdx.foldl (fun (cs : Array Value) (x : Value × Nat) => cs.setIfInBounds (offs u [way u i] + x.2) x.1) cs.toArray) = (cs.take (offs u [way u i]) ++ cd ++ cs.drop (offs u [way u i] + d.1.sz)).toArray := by
      rw [← Array.foldl_toList, Array.toList_zipIdx]
      have hld' : cd.length = d.1.sz := hld
      have := fold_set (offs u [way u i]) cd 0 cs (by omega)
      rw [hld'] at this
      exact this
    exact (congrArg (fun z => Instr.fill place z ((ps.map (·.1)).zip vs)) e).trans g1

end Go.Tm
