/- Stamps: what a step leaves carries its own stamp, or one of its operands'. -/
import Derived.Test.YtlckajldmooefaaTmCall
set_option linter.unusedVariables false
set_option linter.unusedSimpArgs false
namespace Go.Tm

def stampOf : Slot → Option Nat
  | .own n _ _ => some n
  | .obj n _ _ => some n
  | .asl n _ _ => some n
  | .apt n _ _ => some n
  | _ => none

def Stamped (m : Nat) (ls : List Lk) (ups : Ups) : Prop := ∀ p ∈ ups, ∀ n, stampOf p.2 = some n → n = m ∨ ∃ l ∈ ls, stampOf l.s = some n

section
variable {tab : Tab} {Γ : Cons} {m : Nat} {ls : List Lk} {ups : Ups} {d : Option Tmp}

theorem Stamped.nil : Stamped m ls [] := fun p hp => by simp at hp

theorem Stamped.cons {k : Nat} {s : Slot} (h : ∀ n, stampOf s = some n → n = m ∨ ∃ l ∈ ls, stampOf l.s = some n) (r : Stamped m ls ups) : Stamped m ls ((k, s) :: ups) := by
  intro p hp n hn
  rcases List.mem_cons.1 hp with rfl | hp
  · exact h n hn
  · exact r p hp n hn

theorem Stamped.append {u v : Ups} (h : Stamped m ls u) (k : Stamped m ls v) : Stamped m ls (u ++ v) := by
  intro p hp
  rcases List.mem_append.1 hp with hp | hp
  · exact h p hp
  · exact k p hp

theorem Stamped.low {u : Ups} (h : ∀ p ∈ u, aliasOf p.2 = none ∧ owning p.2 = false) : Stamped m ls u := by
  intro p hp n hn
  obtain ⟨h1, h2⟩ := h p hp
  cases hs : p.2 <;> rw [hs] at hn h1 h2 <;> simp [stampOf, aliasOf, owning] at hn h1 h2

theorem into_stamped {s : Slot} (h : into d s = some ups) (hs : ∀ n, stampOf s = some n → n = m ∨ ∃ l ∈ ls, stampOf l.s = some n) : Stamped m ls ups := by
  unfold into at h
  split at h
  · injection h with h; subst h; exact .nil
  · split at h
    · cases h
    · injection h with h; subst h; exact .cons hs .nil

theorem into_val {t : Ty} {x : t.den} (h : into d (.val t x) = some ups) : Stamped m ls ups := into_stamped h (fun n hn => by simp [stampOf] at hn)

theorem into_self {l : Lk} (hl : l ∈ ls) (h : into d l.s = some ups) : Stamped m ls ups := into_stamped h (fun n hn => .inr ⟨l, hl, hn⟩)

theorem frzAll_alias : ∀ {ls : List Lk} {ws : List (Option Ty)} {ds : List Dv} {u : Ups}, frzAll ls ws = some (ds, u) → ∀ p ∈ u, aliasOf p.2 = none ∧ owning p.2 = false
  | [], ws, ds, u, h => by
    simp only [frzAll, Option.some.injEq, Prod.mk.injEq] at h
    obtain ⟨_, rfl⟩ := h
    intro p hp; simp at hp
  | x :: r, ws, ds, u, h => by
    simp only [frzAll] at h
    split at h
    · rename_i d u1 ds' us e1 e2
      simp only [Option.some.injEq, Prod.mk.injEq] at h
      obtain ⟨_, rfl⟩ := h
      intro p hp
      rcases List.mem_append.1 hp with hp | hp
      · exact frz_alias e1 p hp
      · exact frzAll_alias e2 p hp
    · cases h

theorem args_stamped : ∀ {ls : List Lk} {ws : List (Option Ty)} {as : List Lent}, toArgs ls ws = some as → (∀ p ∈ lentsOf as, aliasOf p.2 = none ∧ owning p.2 = false) ∧ ∀ a ∈ as, ∀ s n, a.io = some (s, n) → ∃ l ∈ ls, stampOf l.s = some n
  | [], ws, as, h => by
    simp only [toArgs, Option.some.injEq] at h
    subst h
    exact ⟨(fun p hp => by simp [lentsOf] at hp), (fun a ha => by simp at ha)⟩
  | x :: r, ws, as, h => by
    simp only [toArgs] at h
    split at h
    · rename_i a as' e1 e2
      injection h with h
      subst h
      obtain ⟨h1, h2⟩ := args_stamped e2
      have key : (∀ p, a.lent = some p → aliasOf p.2 = none ∧ owning p.2 = false) ∧ ∀ s n, a.io = some (s, n) → stampOf x.s = some n := by
        obtain ⟨s, c⟩ := x
        unfold toArg at e1
        simp only at e1
        split at e1
        · injection e1 with e1; subst e1; exact ⟨(fun p hp => by cases hp), (fun s n hs => by cases hs)⟩
        · split at e1
          · injection e1 with e1; subst e1; exact ⟨(fun p hp => by cases hp), (fun s n hs => by cases hs)⟩
          · cases e1
        · split at e1
          · injection e1 with e1; subst e1; exact ⟨(fun p hp => by injection hp with hp; subst hp; exact ⟨rfl, rfl⟩), (fun s n hs => by cases hs)⟩
          · cases e1
        · split at e1
          · injection e1 with e1; subst e1; exact ⟨(fun p hp => by injection hp with hp; subst hp; exact ⟨rfl, rfl⟩), (fun s n hs => by cases hs)⟩
          · cases e1
        · split at e1
          · injection e1 with e1; subst e1; exact ⟨(fun p hp => by cases hp), (fun s n hs => by injection hs with hs; injection hs with e1 e2; subst e2; rfl)⟩
          · cases e1
        · injection e1 with e1; subst e1; exact ⟨(fun p hp => by cases hp), (fun s n hs => by cases hs)⟩
        · cases e1
      refine ⟨fun p hp => ?_, fun b hb s n hs => ?_⟩
      · simp only [lentsOf, List.filterMap_cons] at hp
        cases hl : a.lent with
        | none => rw [hl] at hp; exact h1 p hp
        | some q =>
          rw [hl] at hp
          rcases List.mem_cons.1 hp with rfl | hp
          · exact key.1 _ hl
          · exact h1 p hp
      · rcases List.mem_cons.1 hb with rfl | hb
        · exact ⟨x, by simp, key.2 s n hs⟩
        · obtain ⟨l, hl, hn⟩ := h2 b hb s n hs
          exact ⟨l, by simp [hl], hn⟩
    · cases h

theorem ioUps_stamped : ∀ {as : List Lent} {ds : List Dv} {u : Ups}, (∀ a ∈ as, ∀ s n, a.io = some (s, n) → ∃ l ∈ ls, stampOf l.s = some n) → ioUps as ds = some u → Stamped m ls u
  | [], ds, u, h, hu => by
    cases ds with
    | nil => simp only [ioUps, Option.some.injEq] at hu; subst hu; exact .nil
    | cons d ds => simp [ioUps] at hu
  | a :: as, ds, u, h, hu => by
    simp only [ioUps] at hu
    split at hu
    · exact ioUps_stamped (fun b hb => h b (by simp [hb])) hu
    · rename_i s n hio
      split at hu
      · split at hu
        · simp only [Option.map_eq_some_iff] at hu
          obtain ⟨u', hu', rfl⟩ := hu
          refine .cons (fun n' hn => ?_) (ioUps_stamped (fun b hb => h b (by simp [hb])) hu')
          simp only [stampOf, Option.some.injEq] at hn
          subst hn
          exact .inr (h a (by simp) s n hio)
        · cases hu
      · cases hu

theorem res_stamp {r : Res} {n : Nat} (h : stampOf (r.slot m) = some n) : n = m := by
  cases r <;> simp [Res.slot, stampOf] at h <;> exact h.symm

theorem call_stamped {con : Con} {ws : List (Option Ty)} {as : List Lent} (ha : toArgs ls ws = some as) (h : callT con d m as = some ups) : Stamped m ls ups := by
  obtain ⟨h1, h2⟩ := args_stamped ha
  unfold callT at h
  split at h
  · split at h
    · split at h
      · cases h
      split at h
      · rename_i out hc hnp u' u hu
        injection h with h
        subst h
        refine .append (.append ?_ (ioUps_stamped h2 hu)) ?_
        · split
          · exact .low h1
          · exact .nil
        · cases d with
          | none => exact .nil
          | some d =>
            exact .cons (fun n hn => .inl (res_stamp hn)) .nil
      · cases h
    · cases h
  · cases h

theorem one_val {k : Nat} {t : Ty} {x : t.den} : Stamped m ls [(k, .val t x)] := .cons (fun n hn => by simp [stampOf] at hn) .nil
theorem one_own {k : Nat} {t : Ty} {x : List t.den} : Stamped m ls [(k, .own m t x)] := .cons (fun n hn => by simp [stampOf] at hn; exact .inl hn.symm) .nil
theorem one_obj {k : Nat} {t : Ty} {x : t.den} : Stamped m ls [(k, .obj m t x)] := .cons (fun n hn => by simp [stampOf] at hn; exact .inl hn.symm) .nil

theorem pick_stamped {c a b : Lk} (ha : a ∈ ls) (hb : b ∈ ls) (h : stepPick d c a b = some ups) : Stamped m ls ups := by
  unfold stepPick at h
  split at h
  · split at h
    · split at h
      · exact into_val h
      · cases h
    · refine into_stamped h (fun n hn => ?_)
      split at hn
      · exact .inr ⟨a, ha, hn⟩
      · exact .inr ⟨b, hb, hn⟩
  · cases h

theorem assign_stamped {x : Lk} (hx : x ∈ ls) (h : stepAssign d m x = some ups) : Stamped m ls ups := by
  unfold stepAssign at h
  split at h
  · injection h with h; subst h; exact .nil
  · split at h
    · rename_i hs _
      split at h
      · split at h
        · injection h with h; subst h; exact .nil
        · injection h with h; subst h
          refine .cons (fun n hn => .inl ?_) one_own
          simpa [stampOf] using hn.symm
      · cases h
    · rename_i hs _
      split at h
      · split at h
        · injection h with h; subst h; exact one_own
        · injection h with h; subst h
          refine .cons (fun n hn => .inr ⟨x, hx, ?_⟩) .nil
          rw [hs]; exact hn
      · cases h
    · rename_i hs _
      split at h
      · split at h
        · injection h with h; subst h; exact .nil
        · split at h
          · injection h with h; subst h
            exact .cons (fun n hn => .inr ⟨x, hx, by rw [hs]; exact hn⟩) .nil
          injection h with h; subst h
          refine .cons (fun n hn => .inl ?_) one_obj
          simpa [stampOf] using hn.symm
      · cases h
    · exact into_self hx h

theorem store_stamped {t : TypeId} {x y : Lk} (hx : x ∈ ls) (h : stepStore tab t x y = some ups) : Stamped m ls ups := by
  unfold stepStore at h
  split at h
  · rename_i hz
    split at h
    · split at h
      · rename_i hs _
        split at h
        · split at h
          · injection h with h; subst h
            exact .cons (fun n hn => .inr ⟨x, hx, by rw [hs, ← hn]; simp_all [stampOf]⟩) (.low (frz_alias hz))
          · cases h
        · cases h
      · rename_i hs _
        split at h
        · split at h
          · injection h with h; subst h
            exact .cons (fun n hn => .inr ⟨x, hx, by rw [hs, ← hn]; simp_all [stampOf]⟩) (.low (frz_alias hz))
          · cases h
        · cases h
      · cases h
    · cases h
  · cases h

theorem indexAddr_stamp {t : TypeId} {x i : Lk} {s : Slot} {n : Nat} (h : stepIndexAddr tab t x i = some s) (hn : stampOf s = some n) : stampOf x.s = some n := by
  unfold stepIndexAddr at h
  split at h
  · cases h
  · split at h
    · split at h
      · split at h
        · split at h
          · injection h with h; subst h; simp [stampOf] at hn
          · cases h
        · cases h
      · rename_i hs _
        split at h
        · split at h
          · injection h with h; subst h; rw [hs]; exact hn
          · cases h
        · cases h
      · rename_i hs _
        split at h
        · split at h
          · injection h with h; subst h; rw [hs]; exact hn
          · cases h
        · cases h
      · cases h
    · split at h
      · split at h
        · split at h
          · split at h
            · injection h with h; subst h; simp [stampOf] at hn
            · rename_i hs
              injection h with h; subst h; rw [hs]; exact hn
            · cases h
          · cases h
        · cases h
      · cases h
    · cases h

theorem fieldAddr_stamp {t : TypeId} {x : Lk} {f : Nat} {s : Slot} {n : Nat} (h : stepFieldAddr tab t x f = some s) (hn : stampOf s = some n) : stampOf x.s = some n := by
  unfold stepFieldAddr at h
  split at h
  · split at h
    · split at h
      · split at h
        · injection h with h; subst h; simp [stampOf] at hn
        · rename_i hs
          injection h with h; subst h; rw [hs]; exact hn
        · cases h
      · cases h
    · cases h
  · cases h

theorem slice_stamp {t : TypeId} {x : Lk} {lo hi : Option Lk} {s : Slot} {n : Nat} (h : stepSlice tab t x lo hi = some s) (hn : stampOf s = some n) : stampOf x.s = some n := by
  unfold stepSlice at h
  split at h
  · split at h
    · simp only [Option.map_eq_some_iff] at h; obtain ⟨_, _, rfl⟩ := h; simp [stampOf] at hn
    · cases h
  · split at h
    · simp only [Option.map_eq_some_iff] at h; obtain ⟨_, _, rfl⟩ := h; simp [stampOf] at hn
    · cases h
  · rename_i hs
    split at h
    · split at h
      · split at h
        · injection h with h; subst h; rw [hs]; exact hn
        · simp only [Option.map_eq_some_iff] at h; obtain ⟨_, _, rfl⟩ := h; rw [hs]; exact hn
      · cases h
    · cases h
  · rename_i hs
    split at h
    · split at h
      · simp only [Option.map_eq_some_iff] at h; obtain ⟨_, _, rfl⟩ := h; rw [hs]; exact hn
      · cases h
    · cases h
  · cases h

theorem sl_stamped {t : TypeId} {x : Lk} {lo hi : Option Lk} (hx : x ∈ ls) (h : stepSl tab t d x lo hi = some ups) : Stamped m ls ups := by
  have hd : ∀ {u : Ty} {ys : List u.den}, Stamped m ls (dstUps d (.val (.slice u) ys)) := by
    intro u ys
    cases d with
    | none => exact .nil
    | some d => exact .cons (fun n hn => by simp [stampOf] at hn) .nil
  have harr : ∀ {ups}, stepArr tab t d x lo hi = some ups → Stamped m ls ups := by
    intro ups h
    unfold stepArr at h
    split at h
    · split at h
      · simp only [Option.map_eq_some_iff] at h; obtain ⟨_, _, rfl⟩ := h; exact hd
      · cases h
    · split at h
      · split at h
        · simp only [Option.map_eq_some_iff] at h; obtain ⟨_, _, rfl⟩ := h; exact .cons (fun n hn => by simp [stampOf] at hn) hd
        · cases h
      · cases h
    · cases h
  unfold stepSl at h
  split at h
  · exact harr h
  · exact harr h
  · split at h
    · rename_i hs
      exact into_stamped h (fun n hn => .inr ⟨_, hx, slice_stamp hs hn⟩)
    · cases h

theorem convert_stamped {src dst : TypeId} {x : Lk} (h : stepConvert tab src dst d m x = some ups) : Stamped m ls ups := by
  unfold stepConvert at h
  split at h
  · split at h
    · exact into_val h
    · cases h
  · split at h
    · exact into_val h
    · split at h
      · split at h
        · injection h with h; subst h; exact one_own
        · cases h
      · cases h
    · cases h
  · split at h
    · split at h
      · exact into_val h
      · cases h
    · split at h
      · split at h
        · injection h with h; subst h
          exact .cons (fun n hn => by simp [stampOf] at hn) one_own
        · cases h
      · cases h
    · cases h

theorem append_stamped {t t2 : TypeId} {x y : Lk} (h : stepAppend tab t t2 d m x y = some ups) : Stamped m ls ups := by
  unfold stepAppend at h
  split at h
  · split at h
    · split at h
      · injection h with h; subst h
        refine .append ?_ one_own
        split
        · exact .cons (fun n hn => by simp [stampOf] at hn) .nil
        · exact .nil
      · cases h
    · cases h
  · cases h

theorem call_step_stamped {c : Call} (h : stepCall tab Γ c d m ls = some ups) : Stamped m ls ups := by
  unfold stepCall at h
  split at h
  · split at h
    · split at h
      · exact into_val h
      · cases h
    · cases h
  · split at h
    · exact append_stamped h
    · cases h
  · split at h
    · split at h
      · split at h
        · exact into_val h
        · cases h
      · cases h
    · cases h
  · split at h
    · split at h
      · split at h
        · exact into_val h
        · cases h
      · cases h
    · cases h
  · split at h
    · rename_i e1 e2
      exact call_stamped e2 h
    · cases h
  · cases h

set_option maxHeartbeats 1000000 in
theorem step_stamped {o : Oper} (h : step tab Γ o m ls = some ups) : Stamped m ls ups := by
  unfold step at h
  split at h
  · exact into_self (by simp) h
  · exact assign_stamped (by simp) h
  · exact pick_stamped (by simp) (by simp) h
  · split at h
    · injection h with h; subst h; exact one_obj
    · cases h
  · split at h
    · rename_i hz
      injection h with h; subst h
      exact .append (.low (frz_alias hz)) one_obj
    · cases h
  · unfold stepBuild at h
    split at h
    · split at h
      · split at h
        · rename_i hz
          split at h
          · injection h with h; subst h
            exact .append (.low (frzAll_alias hz)) one_val
          · cases h
        · cases h
      · cases h
    · cases h
  · unfold stepBuildSlice at h
    split at h
    · split at h
      · split at h
        · rename_i hz
          split at h
          · injection h with h; subst h
            exact .append (.low (frzAll_alias hz)) one_own
          · cases h
        · cases h
      · cases h
    · cases h
  · split at h
    · split at h
      · exact into_val h
      · cases h
    · cases h
  · split at h
    · exact store_stamped (by simp) h
    · cases h
  · split at h
    · exact into_self (by simp) h
    · cases h
  · unfold stepBin at h
    split at h
    · split at h
      · split at h
        · exact into_val h
        · cases h
      · cases h
    · cases h
  · unfold stepUn at h
    split at h
    · split at h
      · exact into_val h
      · cases h
    · cases h
  · exact convert_stamped h
  · unfold stepMake at h
    split at h
    · split at h
      · injection h with h; subst h; exact one_own
      · cases h
    · cases h
  · exact sl_stamped (by simp) h
  · exact sl_stamped (by simp) h
  · exact sl_stamped (by simp) h
  · exact sl_stamped (by simp) h
  · split at h
    · rename_i hs
      exact into_stamped h (fun n hn => .inr ⟨_, by simp, fieldAddr_stamp hs hn⟩)
    · cases h
  · split at h
    · split at h
      · split at h
        · exact into_val h
        · cases h
      · cases h
    · cases h
  · split at h
    · rename_i hs
      exact into_stamped h (fun n hn => .inr ⟨_, by simp, indexAddr_stamp hs hn⟩)
    · cases h
  · unfold stepIndex at h
    split at h
    · split at h
      · split at h
        · exact into_val h
        · cases h
      · split at h
        · exact into_val h
        · cases h
      · cases h
    · cases h
  · split at h
    · split at h
      · exact into_val h
      · cases h
    · cases h
  · split at h
    · split at h
      · exact into_stamped h (fun n hn => by simp [stampOf] at hn)
      · cases h
    · cases h
  · exact call_step_stamped h
  · cases h

end
end Go.Tm
